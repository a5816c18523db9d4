/- The machine's code of the functions, and that it computes them. -/
import Derived.Test.YtgadpgeghlhpnaaYG0
import Derived.Test.YtgadpgeghlhpnaaProg
import Derived.KernelRfl
set_option maxRecDepth 100000
set_option linter.unusedVariables false
set_option linter.unusedSimpArgs false
namespace Go.Proofs.Ytgadpgeghlhpnaa.M
open Go
noncomputable section
def X {R : Type} (cp : Nat → Nat → Bool) (n : Nat) (c : IC2 RW) (l : FF) (k : Ex → FF → Option R) : Option R := exec2 U cp (callP cp n) n c l k
theorem X_run {R : Type} {cp : Nat → Nat → Bool} {n : Nat} {f : IFn2 RW} {av : Fr} {cells : List Fr} {code : IC2 RW} {fr : FF} {k : Ret2 RW → Option R} (hb : f.body = code) (h : ∀ K : FF → Option R, start2 f av cells K = K fr) : run2 U cp (callP cp n) n f av cells k = X cp n code fr (finK2 f k) := by
  subst hb
  exact h _
def o0 (op : IOp2 RW) : IStep2 RW := ⟨none, op, none, false⟩
def o1 (d : Nat) (op : IOp2 RW) : IStep2 RW := ⟨some d, op, none, false⟩
def o2 (d : Nat) (op : IOp2 RW) : IStep2 RW := ⟨some d, op, none, true⟩
def o3 (d g : Nat) (b : Bool) (op : IOp2 RW) : IStep2 RW := ⟨some d, op, some (g, b), false⟩
def g_reno_New_0 : List (IStep2 RW) := [o1 4 (.alloc 26 [.sc (.int .i64 0), .sc (.int .i64 0), .sc (.int .i64 0), .sc (.int .i64 0), .sc (.int .i64 0), .sc (.int .i64 0), .sc (.int .i64 0), .sc (.int .i64 0), .sc (.int .i64 0), .sc (.int .i64 0), .sc (.int .i64 0), .row false (.rEntry []), .sc (.int .i64 0), .sc (.int .i64 0), .sc (.int .i64 0), .sc (.int .i64 0), .sc (.int .i64 0), .sc (.int .i64 0), .sc (.int .i64 0), .sc (.int .i64 0), .sc (.int .i64 0), .sc (.int .i64 0)]),
  o1 5 (.mv false (.k (.sc (.int .i64 0))))]
def g_reno_New_1 : List (IStep2 RW) := [o1 6 (.mv false (.s 0)),
  o1 7 (.bin .lss (.s 6) (.k (.sc (.int .i64 1)))),
  o2 8 (.mv false (.s 7)),
  o3 9 8 false (.mv false (.s 0)),
  o3 10 8 false (.bin .gtr (.s 9) (.k (.sc (.int .i64 65000)))),
  o1 11 (.pick (.s 8) (.k (.sc (.bool true))) (.s 10)),
  o2 12 (.mv false (.s 11)),
  o3 13 12 false (.mv false (.s 1)),
  o3 14 12 false (.bin .lss (.s 13) (.k (.sc (.int .i64 1)))),
  o1 15 (.pick (.s 12) (.k (.sc (.bool true))) (.s 14)),
  o2 16 (.mv false (.s 15)),
  o3 17 16 false (.mv false (.s 1)),
  o3 18 16 false (.bin .gtr (.s 17) (.k (.sc (.int .i64 100)))),
  o1 19 (.pick (.s 16) (.k (.sc (.bool true))) (.s 18))]
def g_reno_New_2 : List (IStep2 RW) := [o1 20 (.build [.sc (.int .i64 0), .sc (.int .i64 0), .sc (.int .i64 0), .sc (.int .i64 0), .sc (.int .i64 0), .sc (.int .i64 0), .sc (.int .i64 0), .sc (.int .i64 0), .sc (.int .i64 0), .sc (.int .i64 0), .sc (.int .i64 0), .row false (.rEntry []), .sc (.int .i64 0), .sc (.int .i64 0), .sc (.int .i64 0), .sc (.int .i64 0), .sc (.int .i64 0), .sc (.int .i64 0), .sc (.int .i64 0), .sc (.int .i64 0), .sc (.int .i64 0), .sc (.int .i64 0)] []),
  o0 (.store 26 0 22 false 4 (.s 20)),
  o1 5 (.mv false (.k (.sc (.int .i64 2))))]
def g_reno_New_3 : List (IStep2 RW) := [o1 21 (.mv false (.s 0)),
  o1 22 (.mv false (.s 0)),
  o1 23 (.mv false (.s 1)),
  o1 24 (.bin .mul (.s 22) (.s 23)),
  o1 25 (.build [.sc (.int .i64 0), .sc (.int .i64 0), .sc (.int .i64 0), .sc (.int .i64 0), .sc (.int .i64 0), .sc (.int .i64 0), .sc (.int .i64 0), .sc (.int .i64 0), .sc (.int .i64 0), .sc (.int .i64 0), .sc (.int .i64 0), .row false (.rEntry []), .sc (.int .i64 0), .sc (.int .i64 0), .sc (.int .i64 0), .sc (.int .i64 0), .sc (.int .i64 0), .sc (.int .i64 0), .sc (.int .i64 0), .sc (.int .i64 0), .sc (.int .i64 0), .sc (.int .i64 0)] [(0, 1, .k (.sc (.int .i64 1))), (1, 1, .s 21), (2, 1, .s 24), (3, 1, .k (.sc (.int .i64 1073741824)))]),
  o0 (.store 26 0 22 false 4 (.s 25)),
  o1 5 (.mv false (.k (.sc (.int .i64 0))))]
def i_reno_New_0 : IC2 RW := .seq (.fin (.reg g_reno_New_0) [5] []) (.seq (.seq (.fin (.reg g_reno_New_1) [6, 7, 8, 9, 10, 11, 12, 13, 14, 15, 16, 17, 18] []) (.fin (.cond (.s 19) (.seq (.fin (.reg g_reno_New_2) [0, 1, 19, 20] []) (.ret)) (.skip)) [19] [])) (.seq (.fin (.reg g_reno_New_3) [0, 1, 21, 22, 23, 24, 25] []) (.ret)))
def fn_reno_New : IFn2 RW := ⟨20, 2, 26, 64, [(26, 22)], [], [.cell 4 26 22 true, .slot 5], i_reno_New_0⟩
def g_bbr_New_0 : List (IStep2 RW) := [o1 4 (.alloc 20 [.sc (.int .i64 0), .sc (.int .i64 0), .sc (.int .i64 0), .sc (.int .i64 0), .sc (.int .i64 0), .sc (.int .i64 0), .sc (.int .i64 0), .sc (.int .i64 0), .sc (.int .i64 0), .sc (.int .i64 0), .sc (.int .i64 0), .row false (.rEntry []), .sc (.int .i64 0), .sc (.int .i64 0), .sc (.int .i64 0), .sc (.int .i64 0), .sc (.int .i64 0), .sc (.int .i64 0), .sc (.int .i64 0), .sc (.int .i64 0), .sc (.int .i64 0), .sc (.int .i64 0)]),
  o1 5 (.mv false (.k (.sc (.int .i64 0))))]
def g_bbr_New_1 : List (IStep2 RW) := [o1 9 (.mv false (.s 0)),
  o1 10 (.mv false (.s 1)),
  o1 11 (.call 20 [(false, .s 9), (false, .s 10)] []),
  o1 8 (.mv false (.s 11)),
  o1 12 (.ext false 0 (.s 8)),
  o1 13 (.ext false 1 (.s 8)),
  o1 6 (.alloc 43 [.sc (.int .i64 0), .sc (.int .i64 0), .sc (.int .i64 0), .sc (.int .i64 0), .sc (.int .i64 0), .sc (.int .i64 0), .sc (.int .i64 0), .sc (.int .i64 0), .sc (.int .i64 0), .sc (.int .i64 0), .sc (.int .i64 0), .row false (.rEntry []), .sc (.int .i64 0), .sc (.int .i64 0), .sc (.int .i64 0), .sc (.int .i64 0), .sc (.int .i64 0), .sc (.int .i64 0), .sc (.int .i64 0), .sc (.int .i64 0), .sc (.int .i64 0), .sc (.int .i64 0)]),
  o0 (.store 43 0 22 false 6 (.s 12)),
  o1 7 (.mv false (.s 13))]
def g_bbr_New_2 : List (IStep2 RW) := [o1 14 (.mv false (.s 7)),
  o1 15 (.bin .eql (.s 14) (.k (.sc (.int .i64 0))))]
def g_bbr_New_3 : List (IStep2 RW) := [o1 16 (.fld 0 (.s 6)),
  o0 (.store 43 0 1 false 16 (.k (.sc (.int .i64 3)))),
  o1 17 (.fld 10 (.s 6)),
  o0 (.store 43 10 1 false 17 (.k (.sc (.int .i64 1))))]
def g_bbr_New_4 : List (IStep2 RW) := [o1 18 (.load 43 0 22 true false 6),
  o1 19 (.mv false (.s 7)),
  o0 (.store 20 0 22 false 4 (.s 18)),
  o1 5 (.mv false (.s 19))]
def i_bbr_New_0 : IC2 RW := .seq (.fin (.reg g_bbr_New_0) [5] []) (.seq (.fin (.reg g_bbr_New_1) [0, 1, 8, 9, 10, 11, 12, 13] []) (.seq (.seq (.fin (.reg g_bbr_New_2) [14] []) (.fin (.cond (.s 15) (.fin (.reg g_bbr_New_3) [15, 16, 17] []) (.skip)) [15] [])) (.seq (.fin (.reg g_bbr_New_4) [6, 7, 18, 19] [(43, 22)]) (.ret))))
def fn_bbr_New : IFn2 RW := ⟨9, 2, 20, 80, [(20, 22), (43, 22)], [], [.cell 4 20 22 true, .slot 5], i_bbr_New_0⟩
def g_bbr_within_2 : List (IStep2 RW) := [o1 10 (.bin .lss (.s 9) (.s 8))]
def g_bbr_within_3 : List (IStep2 RW) := [o1 11 (.idx 1 (.s 7) (.s 9)),
  o1 12 (.loade 1 false 11),
  o1 6 (.mv false (.s 12))]
def g_bbr_within_4 : List (IStep2 RW) := [o1 13 (.mv false (.s 6)),
  o1 14 (.bin .lss (.s 13) (.k (.sc (.int .i64 0)))),
  o2 15 (.mv false (.s 14)),
  o3 16 15 false (.mv false (.s 6)),
  o3 17 15 false (.mv false (.s 0)),
  o3 18 15 false (.bin .gtr (.s 16) (.s 17)),
  o1 19 (.pick (.s 15) (.k (.sc (.bool true))) (.s 18))]
def g_bbr_within_5 : List (IStep2 RW) := [o1 4 (.mv false (.k (.sc (.bool false))))]
def g_bbr_within_6 : List (IStep2 RW) := [o1 20 (.bin .add (.s 9) (.k (.sc (.int .i64 1)))),
  o1 9 (.mv false (.s 20))]
def i_bbr_within_0 : IC2 RW := .seq (.reg g_bbr_within_2) (.seq (.fin (.cond (.s 10) (.skip) (.clr [0, 7, 8, 9, 10] [] (.exit 0))) [10] []) (.seq (.blk 1 (.seq (.fin (.reg g_bbr_within_3) [11, 12] []) (.seq (.fin (.reg g_bbr_within_4) [6, 13, 14, 15, 16, 17, 18] []) (.fin (.cond (.s 19) (.seq (.fin (.reg g_bbr_within_5) [0, 7, 8, 9, 19] []) (.ret)) (.skip)) [19] [])))) (.fin (.reg g_bbr_within_6) [20] [])))
def i_bbr_within_1 : IC2 RW := .loop i_bbr_within_0
def i_bbr_within_2 : IC2 RW := .blk 0 i_bbr_within_1
def g_bbr_within_1 : List (IStep2 RW) := [o1 7 (.mv false (.s 1)),
  o1 8 (.len false (.s 7)),
  o1 9 (.mv false (.k (.sc (.int .i64 0))))]
def i_bbr_within_3 : IC2 RW := .seq (.fin (.reg g_bbr_within_1) [1] []) i_bbr_within_2
def g_bbr_within_7 : List (IStep2 RW) := [o1 4 (.mv false (.k (.sc (.bool true))))]
def i_bbr_within_4 : IC2 RW := .seq (.reg g_bbr_within_7) (.ret)
def i_bbr_within_5 : IC2 RW := .seq i_bbr_within_3 i_bbr_within_4
def g_bbr_within_0 : List (IStep2 RW) := [o1 4 (.mv false (.k (.sc (.bool false))))]
def i_bbr_within_6 : IC2 RW := .seq (.fin (.reg g_bbr_within_0) [4] []) i_bbr_within_5
def fn_bbr_within : IFn2 RW := ⟨17, 2, 21, 32, [], [], [.slot 4], i_bbr_within_6⟩
def g_filter_may_0 : List (IStep2 RW) := [o1 1 (.box 21 2 false (.s 0)),
  o1 2 (.mv false (.k (.sc (.bool false))))]
def g_filter_may_1 : List (IStep2 RW) := [o1 3 (.fld 0 (.s 1)),
  o1 4 (.load 21 0 1 false false 3),
  o1 5 (.bin .geq (.s 4) (.k (.sc (.int .i64 0)))),
  o2 6 (.mv false (.s 5)),
  o3 7 6 true (.fld 0 (.s 1)),
  o3 8 6 true (.load 21 0 1 false false 7),
  o3 9 6 true (.bin .leq (.s 8) (.k (.sc (.int .i64 1125899906842624)))),
  o1 10 (.pick (.s 6) (.s 9) (.k (.sc (.bool false)))),
  o2 11 (.mv false (.s 10)),
  o3 12 11 true (.fld 1 (.s 1)),
  o3 13 11 true (.load 21 1 1 false false 12),
  o3 14 11 true (.bin .geq (.s 13) (.k (.sc (.int .i64 0)))),
  o1 15 (.pick (.s 11) (.s 14) (.k (.sc (.bool false)))),
  o2 16 (.mv false (.s 15)),
  o3 17 16 true (.fld 1 (.s 1)),
  o3 18 16 true (.load 21 1 1 false false 17),
  o3 19 16 true (.bin .leq (.s 18) (.k (.sc (.int .i64 1152921504606846976)))),
  o1 20 (.pick (.s 16) (.s 19) (.k (.sc (.bool false)))),
  o1 2 (.mv false (.s 20))]
def i_filter_may_0 : IC2 RW := .seq (.fin (.reg g_filter_may_0) [0, 2] []) (.seq (.fin (.reg g_filter_may_1) [1, 3, 4, 5, 6, 7, 8, 9, 10, 11, 12, 13, 14, 15, 16, 17, 18, 19, 20] [(21, 2)]) (.ret))
def fn_filter_may : IFn2 RW := ⟨44, 1, 21, 32, [(21, 2)], [], [.slot 2], i_filter_may_0⟩
def g_filter_beats_0 : List (IStep2 RW) := [o1 6 (.mv false (.k (.sc (.bool false))))]
def g_filter_beats_1 : List (IStep2 RW) := [o1 7 (.mv false (.s 2)),
  o2 8 (.mv false (.s 7)),
  o3 9 8 true (.mv false (.s 0)),
  o3 10 8 true (.mv false (.s 1)),
  o3 11 8 true (.bin .geq (.s 9) (.s 10)),
  o1 12 (.pick (.s 8) (.s 11) (.k (.sc (.bool false)))),
  o2 13 (.mv false (.s 12)),
  o3 14 13 false (.mv false (.s 2)),
  o3 15 13 false (.un .not (.s 14)),
  ⟨some 16, .mv false (.s 15), (some (13, false)), true⟩,
  o3 17 16 true (.mv false (.s 0)),
  o3 18 16 true (.mv false (.s 1)),
  o3 19 16 true (.bin .leq (.s 17) (.s 18)),
  o3 20 13 false (.pick (.s 16) (.s 19) (.k (.sc (.bool false)))),
  o1 21 (.pick (.s 13) (.k (.sc (.bool true))) (.s 20)),
  o1 6 (.mv false (.s 21))]
def i_filter_beats_0 : IC2 RW := .seq (.fin (.reg g_filter_beats_0) [6] []) (.seq (.fin (.reg g_filter_beats_1) [0, 1, 2, 7, 8, 9, 10, 11, 12, 13, 14, 15, 16, 17, 18, 19, 20, 21] []) (.ret))
def fn_filter_beats : IFn2 RW := ⟨45, 3, 22, 32, [], [], [.slot 6], i_filter_beats_0⟩
def g_filter_Check_2 : List (IStep2 RW) := [o1 10 (.bin .lss (.s 9) (.s 8))]
def g_filter_Check_3 : List (IStep2 RW) := [o1 11 (.mv false (.s 9)),
  o1 12 (.idx 2 (.s 7) (.s 9)),
  o1 13 (.loade 2 true 12),
  o1 6 (.alloc 45 [.sc (.int .i64 0), .sc (.int .i64 0)]),
  o1 5 (.mv false (.s 11)),
  o0 (.store 45 0 2 false 6 (.s 13))]
def g_filter_Check_4 : List (IStep2 RW) := [o1 14 (.load 45 0 2 true false 6),
  o1 15 (.call 44 [(false, .s 14)] []),
  o1 16 (.un .not (.s 15)),
  o2 17 (.mv false (.s 16)),
  o3 18 17 false (.mv false (.s 5)),
  o3 19 17 false (.bin .gtr (.s 18) (.k (.sc (.int .i64 0)))),
  ⟨some 20, .mv false (.s 19), (some (17, false)), true⟩,
  o3 21 20 true (.mv false (.s 0)),
  o3 22 20 true (.mv false (.s 5)),
  o3 23 20 true (.bin .sub (.s 22) (.k (.sc (.int .i64 1)))),
  o3 24 20 true (.idx 2 (.s 21) (.s 23)),
  o3 25 20 true (.fld 0 (.s 24)),
  o3 26 20 true (.loade 1 false 25),
  o3 27 20 true (.fld 0 (.s 6)),
  o3 28 20 true (.load 45 0 1 false false 27),
  o3 29 20 true (.bin .geq (.s 26) (.s 28)),
  ⟨some 30, .mv false (.s 29), (some (20, true)), true⟩,
  o3 31 30 false (.fld 1 (.s 6)),
  o3 32 30 false (.load 45 1 1 false false 31),
  o3 33 30 false (.mv false (.s 0)),
  o3 34 30 false (.mv false (.s 5)),
  o3 35 30 false (.bin .sub (.s 34) (.k (.sc (.int .i64 1)))),
  o3 36 30 false (.idx 2 (.s 33) (.s 35)),
  o3 37 30 false (.fld 1 (.s 36)),
  o3 38 30 false (.loade 1 false 37),
  o3 39 30 false (.mv false (.s 1)),
  o3 40 30 false (.call 45 [(false, .s 32), (false, .s 38), (false, .s 39)] []),
  o3 41 20 true (.pick (.s 30) (.k (.sc (.bool true))) (.s 40)),
  o3 42 17 false (.pick (.s 20) (.s 41) (.k (.sc (.bool false)))),
  o1 43 (.pick (.s 17) (.k (.sc (.bool true))) (.s 42))]
def g_filter_Check_5 : List (IStep2 RW) := [o1 4 (.mv false (.k (.sc (.int .i64 2))))]
def g_filter_Check_6 : List (IStep2 RW) := [o1 44 (.bin .add (.s 9) (.k (.sc (.int .i64 1)))),
  o1 9 (.mv false (.s 44))]
def i_filter_Check_0 : IC2 RW := .seq (.reg g_filter_Check_2) (.seq (.fin (.cond (.s 10) (.skip) (.clr [0, 1, 7, 8, 9, 10] [] (.exit 0))) [10] []) (.seq (.blk 1 (.seq (.fin (.reg g_filter_Check_3) [11, 12, 13] []) (.seq (.fin (.reg g_filter_Check_4) [5, 6, 14, 15, 16, 17, 18, 19, 20, 21, 22, 23, 24, 25, 26, 27, 28, 29, 30, 31, 32, 33, 34, 35, 36, 37, 38, 39, 40, 41, 42] [(45, 2)]) (.fin (.cond (.s 43) (.seq (.fin (.reg g_filter_Check_5) [0, 1, 7, 8, 9, 43] []) (.ret)) (.skip)) [43] [])))) (.fin (.reg g_filter_Check_6) [44] [])))
def i_filter_Check_1 : IC2 RW := .loop i_filter_Check_0
def i_filter_Check_2 : IC2 RW := .blk 0 i_filter_Check_1
def g_filter_Check_1 : List (IStep2 RW) := [o1 7 (.mv false (.s 0)),
  o1 8 (.len false (.s 7)),
  o1 9 (.mv false (.k (.sc (.int .i64 0))))]
def i_filter_Check_3 : IC2 RW := .seq (.reg g_filter_Check_1) i_filter_Check_2
def g_filter_Check_7 : List (IStep2 RW) := [o1 4 (.mv false (.k (.sc (.int .i64 0))))]
def i_filter_Check_4 : IC2 RW := .seq (.reg g_filter_Check_7) (.ret)
def i_filter_Check_5 : IC2 RW := .seq i_filter_Check_3 i_filter_Check_4
def g_filter_Check_0 : List (IStep2 RW) := [o1 4 (.mv false (.k (.sc (.int .i64 0))))]
def i_filter_Check_6 : IC2 RW := .seq (.fin (.reg g_filter_Check_0) [4] []) i_filter_Check_5
def fn_filter_Check : IFn2 RW := ⟨36, 2, 45, 48, [(45, 2)], [], [.slot 4], i_filter_Check_6⟩
def g_bbr_ctl_entries_4 : List (IStep2 RW) := [o1 19 (.bin .lss (.s 18) (.s 17))]
def g_bbr_ctl_entries_5 : List (IStep2 RW) := [o1 20 (.idx 2 (.s 16) (.s 18)),
  o1 21 (.loade 2 true 20),
  o1 4 (.alloc 59 [.sc (.int .i64 0), .sc (.int .i64 0)]),
  o0 (.store 59 0 2 false 4 (.s 21))]
def g_bbr_ctl_entries_6 : List (IStep2 RW) := [o1 22 (.fld 1 (.s 4)),
  o1 23 (.load 59 1 1 false false 22),
  o1 24 (.bin .gtr (.s 23) (.k (.sc (.int .i64 1099511627776)))),
  o2 25 (.mv false (.s 24)),
  o3 26 25 false (.fld 0 (.s 4)),
  o3 27 25 false (.load 59 0 1 false false 26),
  o3 28 25 false (.mv false (.s 0)),
  o3 29 25 false (.nil (.s 28)),
  o3 30 25 false (.fld 0 (.s 29)),
  o3 31 25 false (.fld 14 (.s 30)),
  o3 32 25 false (.load 36 14 1 false false 31),
  o3 33 25 false (.bin .gtr (.s 27) (.s 32)),
  o1 34 (.pick (.s 25) (.k (.sc (.bool true))) (.s 33))]
def g_bbr_ctl_entries_7 : List (IStep2 RW) := [o1 2 (.mv false (.k (.sc (.bool false))))]
def g_bbr_ctl_entries_8 : List (IStep2 RW) := [o1 35 (.bin .add (.s 18) (.k (.sc (.int .i64 1)))),
  o1 18 (.mv false (.s 35))]
def i_bbr_ctl_entries_0 : IC2 RW := .seq (.reg g_bbr_ctl_entries_4) (.seq (.fin (.cond (.s 19) (.skip) (.clr [0, 16, 17, 18, 19] [] (.exit 0))) [19] []) (.seq (.blk 1 (.seq (.fin (.reg g_bbr_ctl_entries_5) [20, 21] []) (.seq (.fin (.reg g_bbr_ctl_entries_6) [4, 22, 23, 24, 25, 26, 27, 28, 29, 30, 31, 32, 33] [(59, 2)]) (.fin (.cond (.s 34) (.seq (.fin (.reg g_bbr_ctl_entries_7) [0, 16, 17, 18, 34] []) (.ret)) (.skip)) [34] [])))) (.fin (.reg g_bbr_ctl_entries_8) [35] [])))
def i_bbr_ctl_entries_1 : IC2 RW := .loop i_bbr_ctl_entries_0
def i_bbr_ctl_entries_2 : IC2 RW := .blk 0 i_bbr_ctl_entries_1
def g_bbr_ctl_entries_3 : List (IStep2 RW) := [o1 12 (.mv false (.s 0)),
  o1 13 (.nil (.s 12)),
  o1 14 (.fld 0 (.s 13)),
  o1 15 (.fld 11 (.s 14)),
  o1 16 (.load 36 11 1 false false 15),
  o1 17 (.len false (.s 16)),
  o1 18 (.mv false (.k (.sc (.int .i64 0))))]
def i_bbr_ctl_entries_3 : IC2 RW := .seq (.fin (.reg g_bbr_ctl_entries_3) [12, 13, 14, 15] []) i_bbr_ctl_entries_2
def g_bbr_ctl_entries_9 : List (IStep2 RW) := [o1 2 (.mv false (.k (.sc (.bool true))))]
def i_bbr_ctl_entries_4 : IC2 RW := .seq (.reg g_bbr_ctl_entries_9) (.ret)
def i_bbr_ctl_entries_5 : IC2 RW := .seq i_bbr_ctl_entries_3 i_bbr_ctl_entries_4
def g_bbr_ctl_entries_0 : List (IStep2 RW) := [o1 2 (.mv false (.k (.sc (.bool false))))]
def g_bbr_ctl_entries_1 : List (IStep2 RW) := [o1 5 (.mv false (.s 0)),
  o1 6 (.nil (.s 5)),
  o1 7 (.fld 0 (.s 6)),
  o1 8 (.fld 11 (.s 7)),
  o1 9 (.load 36 11 1 false false 8),
  o1 10 (.call 36 [(false, .s 9), (false, .k (.sc (.bool true)))] []),
  o1 11 (.bin .neq (.s 10) (.k (.sc (.int .i64 0))))]
def g_bbr_ctl_entries_2 : List (IStep2 RW) := [o1 2 (.mv false (.k (.sc (.bool false))))]
def i_bbr_ctl_entries_6 : IC2 RW := .seq (.fin (.reg g_bbr_ctl_entries_0) [2] []) (.seq (.seq (.fin (.reg g_bbr_ctl_entries_1) [5, 6, 7, 8, 9, 10] []) (.fin (.cond (.s 11) (.seq (.fin (.reg g_bbr_ctl_entries_2) [0, 11] []) (.ret)) (.skip)) [11] [])) i_bbr_ctl_entries_5)
def fn_bbr_ctl_entries : IFn2 RW := ⟨22, 1, 36, 64, [(36, 22), (59, 2)], [(36, 22)], [.slot 2], i_bbr_ctl_entries_6⟩
def g_bbr_Check_6 : List (IStep2 RW) := [o1 174 (.mv false (.s 4)),
  o1 175 (.un .not (.s 174)),
  o2 176 (.mv false (.s 175)),
  o3 177 176 false (.mv false (.s 5)),
  o3 178 176 false (.un .not (.s 177)),
  o1 179 (.pick (.s 176) (.k (.sc (.bool true))) (.s 178)),
  o2 180 (.mv false (.s 179)),
  o3 181 180 false (.mv false (.s 6)),
  o3 182 180 false (.un .not (.s 181)),
  o1 183 (.pick (.s 180) (.k (.sc (.bool true))) (.s 182)),
  o2 184 (.mv false (.s 183)),
  o3 185 184 false (.mv false (.s 7)),
  o3 186 184 false (.un .not (.s 185)),
  o1 187 (.pick (.s 184) (.k (.sc (.bool true))) (.s 186)),
  o2 188 (.mv false (.s 187)),
  o3 189 188 false (.mv false (.s 3)),
  o3 190 188 false (.nil (.s 189)),
  o3 191 188 false (.fld 0 (.s 190)),
  o3 192 188 false (.fld 10 (.s 191)),
  o3 193 188 false (.load 232 10 1 false false 192),
  o3 194 188 false (.bin .lss (.s 193) (.k (.sc (.int .i64 1)))),
  o1 195 (.pick (.s 188) (.k (.sc (.bool true))) (.s 194)),
  o2 196 (.mv false (.s 195)),
  o3 197 196 false (.mv false (.s 3)),
  o3 198 196 false (.nil (.s 197)),
  o3 199 196 false (.fld 0 (.s 198)),
  o3 200 196 false (.fld 10 (.s 199)),
  o3 201 196 false (.load 232 10 1 false false 200),
  o3 202 196 false (.bin .gtr (.s 201) (.k (.sc (.int .i64 4)))),
  o1 203 (.pick (.s 196) (.k (.sc (.bool true))) (.s 202)),
  o2 204 (.mv false (.s 203)),
  o3 205 204 false (.mv false (.s 3)),
  o3 206 204 false (.ro 1007 [(false, .s 205)] [(232, 22, 36)]),
  o3 207 204 false (.un .not (.s 206)),
  o1 208 (.pick (.s 204) (.k (.sc (.bool true))) (.s 207))]
def g_bbr_Check_7 : List (IStep2 RW) := [o1 2 (.mv false (.k (.sc (.int .i64 230))))]
def g_bbr_Check_8 : List (IStep2 RW) := [o1 2 (.mv false (.k (.sc (.int .i64 0))))]
def i_bbr_Check_0 : IC2 RW := .seq (.seq (.fin (.reg g_bbr_Check_6) [3, 4, 5, 6, 7, 174, 175, 176, 177, 178, 179, 180, 181, 182, 183, 184, 185, 186, 187, 188, 189, 190, 191, 192, 193, 194, 195, 196, 197, 198, 199, 200, 201, 202, 203, 204, 205, 206, 207] [(232, 22)]) (.fin (.cond (.s 208) (.seq (.fin (.reg g_bbr_Check_7) [208] []) (.ret)) (.skip)) [208] [])) (.seq (.reg g_bbr_Check_8) (.ret))
def g_bbr_Check_5 : List (IStep2 RW) := [o1 140 (.mv false (.s 3)),
  o1 141 (.nil (.s 140)),
  o1 142 (.fld 0 (.s 141)),
  o1 143 (.fld 16 (.s 142)),
  o1 144 (.load 232 16 1 false false 143),
  o1 145 (.bslice 3 1 [(0, 1, .s 144)]),
  o1 146 (.call 17 [(false, .k (.sc (.int .i64 1099511627776))), (false, .s 145)] []),
  o2 147 (.mv false (.s 146)),
  o3 148 147 true (.mv false (.s 3)),
  o3 149 147 true (.nil (.s 148)),
  o3 150 147 true (.fld 0 (.s 149)),
  o3 151 147 true (.fld 17 (.s 150)),
  o3 152 147 true (.load 232 17 1 false false 151),
  o3 153 147 true (.bslice 3 1 [(0, 1, .s 152)]),
  o3 154 147 true (.call 17 [(false, .k (.sc (.int .i64 3))), (false, .s 153)] []),
  o1 155 (.pick (.s 147) (.s 154) (.k (.sc (.bool false)))),
  o2 156 (.mv false (.s 155)),
  o3 157 156 true (.mv false (.s 3)),
  o3 158 156 true (.nil (.s 157)),
  o3 159 156 true (.fld 0 (.s 158)),
  o3 160 156 true (.fld 18 (.s 159)),
  o3 161 156 true (.load 232 18 1 false false 160),
  o3 162 156 true (.bslice 3 1 [(0, 1, .s 161)]),
  o3 163 156 true (.call 17 [(false, .k (.sc (.int .i64 7))), (false, .s 162)] []),
  o1 164 (.pick (.s 156) (.s 163) (.k (.sc (.bool false)))),
  o2 165 (.mv false (.s 164)),
  o3 166 165 true (.mv false (.s 3)),
  o3 167 165 true (.nil (.s 166)),
  o3 168 165 true (.fld 0 (.s 167)),
  o3 169 165 true (.fld 21 (.s 168)),
  o3 170 165 true (.load 232 21 1 false false 169),
  o3 171 165 true (.bslice 3 1 [(0, 1, .s 170)]),
  o3 172 165 true (.call 17 [(false, .k (.sc (.int .i64 1073741824))), (false, .s 171)] []),
  o1 173 (.pick (.s 165) (.s 172) (.k (.sc (.bool false)))),
  o1 7 (.mv false (.s 173))]
def i_bbr_Check_1 : IC2 RW := .seq (.fin (.reg g_bbr_Check_5) [140, 141, 142, 143, 144, 145, 146, 147, 148, 149, 150, 151, 152, 153, 154, 155, 156, 157, 158, 159, 160, 161, 162, 163, 164, 165, 166, 167, 168, 169, 170, 171, 172, 173] []) i_bbr_Check_0
def g_bbr_Check_4 : List (IStep2 RW) := [o1 108 (.mv false (.s 3)),
  o1 109 (.nil (.s 108)),
  o1 110 (.fld 0 (.s 109)),
  o1 111 (.fld 12 (.s 110)),
  o1 112 (.load 232 12 1 false false 111),
  o1 113 (.mv false (.s 3)),
  o1 114 (.nil (.s 113)),
  o1 115 (.fld 0 (.s 114)),
  o1 116 (.fld 13 (.s 115)),
  o1 117 (.load 232 13 1 false false 116),
  o1 118 (.mv false (.s 3)),
  o1 119 (.nil (.s 118)),
  o1 120 (.fld 0 (.s 119)),
  o1 121 (.fld 15 (.s 120)),
  o1 122 (.load 232 15 1 false false 121),
  o1 123 (.mv false (.s 3)),
  o1 124 (.nil (.s 123)),
  o1 125 (.fld 0 (.s 124)),
  o1 126 (.fld 19 (.s 125)),
  o1 127 (.load 232 19 1 false false 126),
  o1 128 (.mv false (.s 3)),
  o1 129 (.nil (.s 128)),
  o1 130 (.fld 0 (.s 129)),
  o1 131 (.fld 20 (.s 130)),
  o1 132 (.load 232 20 1 false false 131),
  o1 133 (.mv false (.s 3)),
  o1 134 (.nil (.s 133)),
  o1 135 (.fld 0 (.s 134)),
  o1 136 (.fld 14 (.s 135)),
  o1 137 (.load 232 14 1 false false 136),
  o1 138 (.bslice 3 6 [(0, 1, .s 112), (1, 1, .s 117), (2, 1, .s 122), (3, 1, .s 127), (4, 1, .s 132), (5, 1, .s 137)]),
  o1 139 (.call 17 [(false, .k (.sc (.int .i64 1125899906842624))), (false, .s 138)] []),
  o1 6 (.mv false (.s 139))]
def i_bbr_Check_2 : IC2 RW := .seq (.fin (.reg g_bbr_Check_4) [108, 109, 110, 111, 112, 113, 114, 115, 116, 117, 118, 119, 120, 121, 122, 123, 124, 125, 126, 127, 128, 129, 130, 131, 132, 133, 134, 135, 136, 137, 138, 139] []) i_bbr_Check_1
def g_bbr_Check_3 : List (IStep2 RW) := [o1 70 (.mv false (.s 3)),
  o1 71 (.nil (.s 70)),
  o1 72 (.fld 0 (.s 71)),
  o1 73 (.fld 5 (.s 72)),
  o1 74 (.load 232 5 1 false false 73),
  o1 75 (.bin .eql (.s 74) (.k (.sc (.int .i64 0)))),
  o2 76 (.mv false (.s 75)),
  o3 77 76 true (.mv false (.s 3)),
  o3 78 76 true (.nil (.s 77)),
  o3 79 76 true (.fld 0 (.s 78)),
  o3 80 76 true (.fld 6 (.s 79)),
  o3 81 76 true (.load 232 6 1 false false 80),
  o3 82 76 true (.bin .eql (.s 81) (.k (.sc (.int .i64 0)))),
  o1 83 (.pick (.s 76) (.s 82) (.k (.sc (.bool false)))),
  o2 84 (.mv false (.s 83)),
  o3 85 84 true (.mv false (.s 3)),
  o3 86 84 true (.nil (.s 85)),
  o3 87 84 true (.fld 0 (.s 86)),
  o3 88 84 true (.fld 7 (.s 87)),
  o3 89 84 true (.load 232 7 1 false false 88),
  o3 90 84 true (.bin .eql (.s 89) (.k (.sc (.int .i64 0)))),
  o1 91 (.pick (.s 84) (.s 90) (.k (.sc (.bool false)))),
  o2 92 (.mv false (.s 91)),
  o3 93 92 true (.mv false (.s 3)),
  o3 94 92 true (.nil (.s 93)),
  o3 95 92 true (.fld 0 (.s 94)),
  o3 96 92 true (.fld 8 (.s 95)),
  o3 97 92 true (.load 232 8 1 false false 96),
  o3 98 92 true (.bin .eql (.s 97) (.k (.sc (.int .i64 0)))),
  o1 99 (.pick (.s 92) (.s 98) (.k (.sc (.bool false)))),
  o2 100 (.mv false (.s 99)),
  o3 101 100 true (.mv false (.s 3)),
  o3 102 100 true (.nil (.s 101)),
  o3 103 100 true (.fld 0 (.s 102)),
  o3 104 100 true (.fld 9 (.s 103)),
  o3 105 100 true (.load 232 9 1 false false 104),
  o3 106 100 true (.bin .eql (.s 105) (.k (.sc (.int .i64 0)))),
  o1 107 (.pick (.s 100) (.s 106) (.k (.sc (.bool false)))),
  o1 5 (.mv false (.s 107))]
def i_bbr_Check_3 : IC2 RW := .seq (.fin (.reg g_bbr_Check_3) [70, 71, 72, 73, 74, 75, 76, 77, 78, 79, 80, 81, 82, 83, 84, 85, 86, 87, 88, 89, 90, 91, 92, 93, 94, 95, 96, 97, 98, 99, 100, 101, 102, 103, 104, 105, 106, 107] []) i_bbr_Check_2
def g_bbr_Check_2 : List (IStep2 RW) := [o1 11 (.mv false (.s 3)),
  o1 12 (.nil (.s 11)),
  o1 13 (.fld 0 (.s 12)),
  o1 14 (.fld 0 (.s 13)),
  o1 15 (.load 232 0 1 false false 14),
  o1 16 (.bin .eql (.s 15) (.k (.sc (.int .i64 3)))),
  o2 17 (.mv false (.s 16)),
  o3 18 17 true (.mv false (.s 3)),
  o3 19 17 true (.nil (.s 18)),
  o3 20 17 true (.fld 0 (.s 19)),
  o3 21 17 true (.fld 1 (.s 20)),
  o3 22 17 true (.load 232 1 1 false false 21),
  o3 23 17 true (.bin .geq (.s 22) (.k (.sc (.int .i64 1)))),
  o1 24 (.pick (.s 17) (.s 23) (.k (.sc (.bool false)))),
  o2 25 (.mv false (.s 24)),
  o3 26 25 true (.mv false (.s 3)),
  o3 27 25 true (.nil (.s 26)),
  o3 28 25 true (.fld 0 (.s 27)),
  o3 29 25 true (.fld 1 (.s 28)),
  o3 30 25 true (.load 232 1 1 false false 29),
  o3 31 25 true (.bin .leq (.s 30) (.k (.sc (.int .i64 65000)))),
  o1 32 (.pick (.s 25) (.s 31) (.k (.sc (.bool false)))),
  o2 33 (.mv false (.s 32)),
  o3 34 33 true (.mv false (.s 3)),
  o3 35 33 true (.nil (.s 34)),
  o3 36 33 true (.fld 0 (.s 35)),
  o3 37 33 true (.fld 2 (.s 36)),
  o3 38 33 true (.load 232 2 1 false false 37),
  o3 39 33 true (.mv false (.s 3)),
  o3 40 33 true (.nil (.s 39)),
  o3 41 33 true (.fld 0 (.s 40)),
  o3 42 33 true (.fld 1 (.s 41)),
  o3 43 33 true (.load 232 1 1 false false 42),
  o3 44 33 true (.bin .geq (.s 38) (.s 43)),
  o1 45 (.pick (.s 33) (.s 44) (.k (.sc (.bool false)))),
  o2 46 (.mv false (.s 45)),
  o3 47 46 true (.mv false (.s 3)),
  o3 48 46 true (.nil (.s 47)),
  o3 49 46 true (.fld 0 (.s 48)),
  o3 50 46 true (.fld 2 (.s 49)),
  o3 51 46 true (.load 232 2 1 false false 50),
  o3 52 46 true (.bin .leq (.s 51) (.k (.sc (.int .i64 1073741824)))),
  o1 53 (.pick (.s 46) (.s 52) (.k (.sc (.bool false)))),
  o2 54 (.mv false (.s 53)),
  o3 55 54 true (.mv false (.s 3)),
  o3 56 54 true (.nil (.s 55)),
  o3 57 54 true (.fld 0 (.s 56)),
  o3 58 54 true (.fld 3 (.s 57)),
  o3 59 54 true (.load 232 3 1 false false 58),
  o3 60 54 true (.bin .eql (.s 59) (.k (.sc (.int .i64 1073741824)))),
  o1 61 (.pick (.s 54) (.s 60) (.k (.sc (.bool false)))),
  o2 62 (.mv false (.s 61)),
  o3 63 62 true (.mv false (.s 3)),
  o3 64 62 true (.nil (.s 63)),
  o3 65 62 true (.fld 0 (.s 64)),
  o3 66 62 true (.fld 4 (.s 65)),
  o3 67 62 true (.load 232 4 1 false false 66),
  o3 68 62 true (.bin .eql (.s 67) (.k (.sc (.int .i64 0)))),
  o1 69 (.pick (.s 62) (.s 68) (.k (.sc (.bool false)))),
  o1 4 (.mv false (.s 69))]
def i_bbr_Check_4 : IC2 RW := .seq (.fin (.reg g_bbr_Check_2) [11, 12, 13, 14, 15, 16, 17, 18, 19, 20, 21, 22, 23, 24, 25, 26, 27, 28, 29, 30, 31, 32, 33, 34, 35, 36, 37, 38, 39, 40, 41, 42, 43, 44, 45, 46, 47, 48, 49, 50, 51, 52, 53, 54, 55, 56, 57, 58, 59, 60, 61, 62, 63, 64, 65, 66, 67, 68, 69] []) i_bbr_Check_3
def g_bbr_Check_0 : List (IStep2 RW) := [o1 1 (.box 209 22 false (.s 0)),
  o1 2 (.mv false (.k (.sc (.int .i64 0))))]
def g_bbr_Check_1 : List (IStep2 RW) := [o1 8 (.load 209 0 22 true false 1),
  o1 9 (.build [.sc (.int .i64 0), .sc (.int .i64 0), .sc (.int .i64 0), .sc (.int .i64 0), .sc (.int .i64 0), .sc (.int .i64 0), .sc (.int .i64 0), .sc (.int .i64 0), .sc (.int .i64 0), .sc (.int .i64 0), .sc (.int .i64 0), .row false (.rEntry []), .sc (.int .i64 0), .sc (.int .i64 0), .sc (.int .i64 0), .sc (.int .i64 0), .sc (.int .i64 0), .sc (.int .i64 0), .sc (.int .i64 0), .sc (.int .i64 0), .sc (.int .i64 0), .sc (.int .i64 0)] [(0, 22, .s 8)]),
  o1 10 (.box 232 22 false (.s 9)),
  o1 3 (.mv false (.s 10))]
def i_bbr_Check_5 : IC2 RW := .seq (.fin (.reg g_bbr_Check_0) [0, 2] []) (.seq (.fin (.reg g_bbr_Check_1) [1, 8, 9, 10] [(209, 22)]) i_bbr_Check_4)
def fn_bbr_Check : IFn2 RW := ⟨12, 1, 209, 256, [(209, 22), (232, 22)], [], [.slot 2], i_bbr_Check_5⟩
def g_bbr_ctl_round_0 : List (IStep2 RW) := [o1 3 (.box 53 8 false (.s 1)),
  o1 4 (.mv false (.k (.sc (.bool false))))]
def g_bbr_ctl_round_1 : List (IStep2 RW) := [o1 5 (.fld 6 (.s 3)),
  o1 6 (.load 53 6 1 false false 5),
  o1 7 (.mv false (.s 0)),
  o1 8 (.nil (.s 7)),
  o1 9 (.fld 0 (.s 8)),
  o1 10 (.fld 15 (.s 9)),
  o1 11 (.load 30 15 1 false false 10),
  o1 12 (.bin .lss (.s 6) (.s 11))]
def g_bbr_ctl_round_2 : List (IStep2 RW) := [o1 4 (.mv false (.k (.sc (.bool false))))]
def g_bbr_ctl_round_3 : List (IStep2 RW) := [o1 13 (.mv false (.s 0)),
  o1 14 (.mv false (.s 0)),
  o1 15 (.fld 5 (.s 3)),
  o1 16 (.load 53 5 1 false false 15),
  o1 17 (.mv false (.s 0)),
  o1 18 (.nil (.s 17)),
  o1 19 (.fld 0 (.s 18)),
  o1 20 (.fld 14 (.s 19)),
  o1 21 (.load 30 14 1 false false 20),
  o1 22 (.bin .add (.s 21) (.k (.sc (.int .i64 1)))),
  o1 23 (.mnmx false [.k (.sc (.int .i64 1125899906842624)), .s 22]),
  o1 24 (.nil (.s 13)),
  o1 25 (.fld 0 (.s 24)),
  o1 26 (.fld 15 (.s 25)),
  o0 (.store 30 15 1 false 26 (.s 16)),
  o1 27 (.nil (.s 14)),
  o1 28 (.fld 0 (.s 27)),
  o1 29 (.fld 14 (.s 28)),
  o0 (.store 30 14 1 false 29 (.s 23))]
def g_bbr_ctl_round_4 : List (IStep2 RW) := [o1 4 (.mv false (.k (.sc (.bool true))))]
def i_bbr_ctl_round_0 : IC2 RW := .seq (.fin (.reg g_bbr_ctl_round_0) [1, 4] []) (.seq (.seq (.fin (.reg g_bbr_ctl_round_1) [5, 6, 7, 8, 9, 10, 11] []) (.fin (.cond (.s 12) (.seq (.fin (.reg g_bbr_ctl_round_2) [0, 3, 12] [(53, 8)]) (.ret)) (.skip)) [12] [])) (.seq (.fin (.reg g_bbr_ctl_round_3) [0, 3, 13, 14, 15, 16, 17, 18, 19, 20, 21, 22, 23, 24, 25, 26, 27, 28, 29] [(53, 8)]) (.seq (.reg g_bbr_ctl_round_4) (.ret))))
def fn_bbr_ctl_round : IFn2 RW := ⟨24, 2, 30, 64, [(30, 22), (53, 8)], [(30, 22)], [.slot 4], i_bbr_ctl_round_0⟩
def g_filter_Best_0 : List (IStep2 RW) := [o1 2 (.mv false (.k (.sc (.int .i64 0)))),
  o1 3 (.mv false (.k (.sc (.bool false))))]
def g_filter_Best_1 : List (IStep2 RW) := [o1 4 (.mv false (.s 0)),
  o1 5 (.len false (.s 4)),
  o1 6 (.bin .eql (.s 5) (.k (.sc (.int .i64 0))))]
def g_filter_Best_2 : List (IStep2 RW) := [o1 2 (.mv false (.k (.sc (.int .i64 0)))),
  o1 3 (.mv false (.k (.sc (.bool false))))]
def g_filter_Best_3 : List (IStep2 RW) := [o1 7 (.mv false (.s 0)),
  o1 8 (.idx 2 (.s 7) (.k (.sc (.int .i64 0)))),
  o1 9 (.fld 1 (.s 8)),
  o1 10 (.loade 1 false 9),
  o1 2 (.mv false (.s 10)),
  o1 3 (.mv false (.k (.sc (.bool true))))]
def i_filter_Best_0 : IC2 RW := .seq (.fin (.reg g_filter_Best_0) [2, 3] []) (.seq (.seq (.fin (.reg g_filter_Best_1) [4, 5] []) (.fin (.cond (.s 6) (.seq (.fin (.reg g_filter_Best_2) [0, 6] []) (.ret)) (.skip)) [6] [])) (.seq (.fin (.reg g_filter_Best_3) [0, 7, 8, 9, 10] []) (.ret)))
def fn_filter_Best : IFn2 RW := ⟨40, 1, 11, 16, [], [], [.slot 2, .slot 3], i_filter_Best_0⟩
def g_bbr_ctl_bandwidth_0 : List (IStep2 RW) := [o1 2 (.mv false (.k (.sc (.int .i64 0))))]
def g_bbr_ctl_bandwidth_1 : List (IStep2 RW) := [o1 6 (.mv false (.s 0)),
  o1 7 (.nil (.s 6)),
  o1 8 (.fld 0 (.s 7)),
  o1 9 (.fld 11 (.s 8)),
  o1 10 (.load 15 11 1 false false 9),
  o1 11 (.call 40 [(false, .s 10)] []),
  o1 5 (.mv false (.s 11)),
  o1 12 (.ext false 0 (.s 5)),
  o1 13 (.ext false 1 (.s 5)),
  o1 3 (.mv false (.s 12)),
  o1 4 (.mv false (.s 13))]
def g_bbr_ctl_bandwidth_2 : List (IStep2 RW) := [o1 14 (.mv false (.s 3)),
  o1 2 (.mv false (.s 14))]
def i_bbr_ctl_bandwidth_0 : IC2 RW := .seq (.fin (.reg g_bbr_ctl_bandwidth_0) [2] []) (.seq (.fin (.reg g_bbr_ctl_bandwidth_1) [0, 4, 5, 6, 7, 8, 9, 10, 11, 12, 13] []) (.seq (.fin (.reg g_bbr_ctl_bandwidth_2) [3, 14] []) (.ret)))
def fn_bbr_ctl_bandwidth : IFn2 RW := ⟨31, 1, 15, 48, [(15, 22)], [(15, 22)], [.slot 2], i_bbr_ctl_bandwidth_0⟩
def g_filter_Put_5 : List (IStep2 RW) := [o1 51 (.mv false (.s 13)),
  o1 52 (.mv false (.s 14)),
  o1 53 (.bin .lss (.s 51) (.s 52)),
  o2 54 (.mv false (.s 53)),
  o3 55 54 true (.mv false (.s 0)),
  o3 56 54 true (.mv false (.s 13)),
  o3 57 54 true (.idx 2 (.s 55) (.s 56)),
  o3 58 54 true (.fld 0 (.s 57)),
  o3 59 54 true (.loade 1 false 58),
  o3 60 54 true (.mv false (.s 3)),
  o3 61 54 true (.bin .add (.s 59) (.s 60)),
  o3 62 54 true (.mv false (.s 1)),
  o3 63 54 true (.bin .lss (.s 61) (.s 62)),
  o1 64 (.pick (.s 54) (.s 63) (.k (.sc (.bool false))))]
def g_filter_Put_6 : List (IStep2 RW) := [o1 65 (.mv false (.s 13)),
  o1 66 (.bin .add (.s 65) (.k (.sc (.int .i64 1)))),
  o1 13 (.mv false (.s 66))]
def i_filter_Put_0 : IC2 RW := .seq (.seq (.fin (.reg g_filter_Put_5) [51, 52, 53, 54, 55, 56, 57, 58, 59, 60, 61, 62, 63] []) (.fin (.cond (.s 64) (.skip) (.clr [1, 3, 64] [] (.exit 0))) [64] [])) (.blk 1 (.fin (.reg g_filter_Put_6) [65, 66] []))
def i_filter_Put_1 : IC2 RW := .loop i_filter_Put_0
def i_filter_Put_2 : IC2 RW := .blk 0 i_filter_Put_1
def g_filter_Put_7 : List (IStep2 RW) := [o1 67 (.mv false (.s 13)),
  o1 68 (.mv false (.s 14)),
  o1 69 (.bin .lss (.s 67) (.s 68)),
  o2 70 (.mv false (.s 69)),
  o3 71 70 true (.mv false (.s 2)),
  o3 72 70 true (.mv false (.s 0)),
  o3 73 70 true (.mv false (.s 14)),
  o3 74 70 true (.bin .sub (.s 73) (.k (.sc (.int .i64 1)))),
  o3 75 70 true (.idx 2 (.s 72) (.s 74)),
  o3 76 70 true (.fld 1 (.s 75)),
  o3 77 70 true (.loade 1 false 76),
  o3 78 70 true (.mv false (.s 4)),
  o3 79 70 true (.call 45 [(false, .s 71), (false, .s 77), (false, .s 78)] []),
  o1 80 (.pick (.s 70) (.s 79) (.k (.sc (.bool false))))]
def g_filter_Put_8 : List (IStep2 RW) := [o1 81 (.mv false (.s 14)),
  o1 82 (.bin .sub (.s 81) (.k (.sc (.int .i64 1)))),
  o1 14 (.mv false (.s 82))]
def i_filter_Put_3 : IC2 RW := .seq (.seq (.fin (.reg g_filter_Put_7) [67, 68, 69, 70, 71, 72, 73, 74, 75, 76, 77, 78, 79] []) (.fin (.cond (.s 80) (.skip) (.clr [2, 4, 80] [] (.exit 2))) [80] [])) (.blk 3 (.fin (.reg g_filter_Put_8) [81, 82] []))
def i_filter_Put_4 : IC2 RW := .loop i_filter_Put_3
def i_filter_Put_5 : IC2 RW := .blk 2 i_filter_Put_4
def g_filter_Put_9 : List (IStep2 RW) := [o1 83 (.mv false (.s 0)),
  o1 84 (.mv false (.s 13)),
  o1 85 (.mv false (.s 14)),
  o1 86 (.mv false (.s 14)),
  o1 87 (.slice 2 (.s 83) (some (.s 84)) (some (.s 85)) (some (.s 86))),
  o1 88 (.load 91 0 2 true false 12),
  o1 89 (.bslice 49 1 [(0, 2, .s 88)]),
  o1 90 (.app 2 16 true (.s 87) (.s 89)),
  o1 10 (.mv false (.s 90)),
  o1 11 (.mv false (.k (.sc (.int .i64 0))))]
def i_filter_Put_6 : IC2 RW := .seq (.fin (.reg g_filter_Put_9) [0, 12, 13, 14, 83, 84, 85, 86, 87, 88, 89, 90] [(91, 2)]) (.ret)
def i_filter_Put_7 : IC2 RW := .seq i_filter_Put_5 i_filter_Put_6
def i_filter_Put_8 : IC2 RW := .seq i_filter_Put_2 i_filter_Put_7
def g_filter_Put_0 : List (IStep2 RW) := [o1 10 (.mv false (.k (.row false (.rEntry [])))),
  o1 11 (.mv false (.k (.sc (.int .i64 0))))]
def g_filter_Put_1 : List (IStep2 RW) := [o1 15 (.mv false (.s 1)),
  o1 16 (.mv false (.s 2)),
  o1 17 (.build [.sc (.int .i64 0), .sc (.int .i64 0)] [(0, 1, .s 15), (1, 1, .s 16)]),
  o1 12 (.alloc 91 [.sc (.int .i64 0), .sc (.int .i64 0)]),
  o0 (.store 91 0 2 false 12 (.s 17))]
def g_filter_Put_2 : List (IStep2 RW) := [o1 18 (.mv false (.s 0)),
  o1 19 (.mv false (.s 4)),
  o1 20 (.call 36 [(false, .s 18), (false, .s 19)] []),
  o1 21 (.bin .neq (.s 20) (.k (.sc (.int .i64 0)))),
  o2 22 (.mv false (.s 21)),
  o3 23 22 false (.load 91 0 2 true false 12),
  o3 24 22 false (.call 44 [(false, .s 23)] []),
  o3 25 22 false (.un .not (.s 24)),
  o1 26 (.pick (.s 22) (.k (.sc (.bool true))) (.s 25)),
  o2 27 (.mv false (.s 26)),
  o3 28 27 false (.mv false (.s 3)),
  o3 29 27 false (.build [.sc (.int .i64 0), .sc (.int .i64 0)] [(0, 1, .s 28)]),
  o3 30 27 false (.call 44 [(false, .s 29)] []),
  o3 31 27 false (.un .not (.s 30)),
  o1 32 (.pick (.s 27) (.k (.sc (.bool true))) (.s 31)),
  o2 33 (.mv false (.s 32)),
  o3 34 33 false (.mv false (.s 0)),
  o3 35 33 false (.len false (.s 34)),
  o3 36 33 false (.bin .gtr (.s 35) (.k (.sc (.int .i64 0)))),
  ⟨some 37, .mv false (.s 36), (some (33, false)), true⟩,
  o3 38 37 true (.mv false (.s 0)),
  o3 39 37 true (.mv false (.s 0)),
  o3 40 37 true (.len false (.s 39)),
  o3 41 37 true (.bin .sub (.s 40) (.k (.sc (.int .i64 1)))),
  o3 42 37 true (.idx 2 (.s 38) (.s 41)),
  o3 43 37 true (.fld 0 (.s 42)),
  o3 44 37 true (.loade 1 false 43),
  o3 45 37 true (.mv false (.s 1)),
  o3 46 37 true (.bin .geq (.s 44) (.s 45)),
  o3 47 33 false (.pick (.s 37) (.s 46) (.k (.sc (.bool false)))),
  o1 48 (.pick (.s 33) (.k (.sc (.bool true))) (.s 47))]
def g_filter_Put_3 : List (IStep2 RW) := [o1 10 (.mv false (.k (.row false (.rEntry [])))),
  o1 11 (.mv false (.k (.sc (.int .i64 2))))]
def g_filter_Put_4 : List (IStep2 RW) := [o1 49 (.mv false (.s 0)),
  o1 50 (.len false (.s 49)),
  o1 13 (.mv false (.k (.sc (.int .i64 0)))),
  o1 14 (.mv false (.s 50))]
def i_filter_Put_9 : IC2 RW := .seq (.fin (.reg g_filter_Put_0) [10, 11] []) (.seq (.fin (.reg g_filter_Put_1) [15, 16, 17] []) (.seq (.seq (.fin (.reg g_filter_Put_2) [18, 19, 20, 21, 22, 23, 24, 25, 26, 27, 28, 29, 30, 31, 32, 33, 34, 35, 36, 37, 38, 39, 40, 41, 42, 43, 44, 45, 46, 47] []) (.fin (.cond (.s 48) (.seq (.fin (.reg g_filter_Put_3) [0, 1, 2, 3, 4, 12, 48] [(91, 2)]) (.ret)) (.skip)) [48] [])) (.seq (.fin (.reg g_filter_Put_4) [49, 50] []) i_filter_Put_8)))
def fn_filter_Put : IFn2 RW := ⟨37, 5, 91, 96, [(91, 2)], [], [.slot 10, .slot 11], i_filter_Put_9⟩
def g_bbr_ctl_speed_4 : List (IStep2 RW) := [o1 27 (.mv false (.s 5)),
  o1 28 (.len false (.s 27)),
  o1 6 (.mv false (.s 28))]
def g_bbr_ctl_speed_5 : List (IStep2 RW) := [o1 29 (.mv false (.s 6)),
  o1 30 (.bin .gtr (.s 29) (.k (.sc (.int .i64 0)))),
  o2 31 (.mv false (.s 30)),
  o3 32 31 true (.mv false (.s 5)),
  o3 33 31 true (.mv false (.s 6)),
  o3 34 31 true (.bin .sub (.s 33) (.k (.sc (.int .i64 1)))),
  o3 35 31 true (.idx 2 (.s 32) (.s 34)),
  o3 36 31 true (.fld 0 (.s 35)),
  o3 37 31 true (.loade 1 false 36),
  o3 38 31 true (.mv false (.s 0)),
  o3 39 31 true (.nil (.s 38)),
  o3 40 31 true (.fld 0 (.s 39)),
  o3 41 31 true (.fld 14 (.s 40)),
  o3 42 31 true (.load 74 14 1 false false 41),
  o3 43 31 true (.bin .eql (.s 37) (.s 42)),
  o1 44 (.pick (.s 31) (.s 43) (.k (.sc (.bool false))))]
def g_bbr_ctl_speed_6 : List (IStep2 RW) := [o1 45 (.mv false (.s 4)),
  o1 46 (.mv false (.s 5)),
  o1 47 (.mv false (.s 6)),
  o1 48 (.bin .sub (.s 47) (.k (.sc (.int .i64 1)))),
  o1 49 (.idx 2 (.s 46) (.s 48)),
  o1 50 (.fld 1 (.s 49)),
  o1 51 (.loade 1 false 50),
  o1 52 (.mnmx true [.s 45, .s 51]),
  o1 4 (.mv false (.s 52))]
def g_bbr_ctl_speed_7 : List (IStep2 RW) := [o1 53 (.mv false (.s 5)),
  o1 54 (.mv false (.s 6)),
  o1 55 (.bin .sub (.s 54) (.k (.sc (.int .i64 1)))),
  o1 56 (.mv false (.s 6)),
  o1 57 (.bin .sub (.s 56) (.k (.sc (.int .i64 1)))),
  o1 58 (.slice 2 (.s 53) none (some (.s 55)) (some (.s 57))),
  o1 5 (.mv false (.s 58))]
def g_bbr_ctl_speed_8 : List (IStep2 RW) := [o1 60 (.mv false (.s 0)),
  o1 61 (.mv false (.s 5)),
  o1 62 (.mv false (.s 0)),
  o1 63 (.nil (.s 62)),
  o1 64 (.fld 0 (.s 63)),
  o1 65 (.fld 14 (.s 64)),
  o1 66 (.load 74 14 1 false false 65),
  o1 67 (.mv false (.s 4)),
  o1 68 (.call 37 [(false, .s 61), (false, .s 66), (false, .s 67), (false, .k (.sc (.int .i64 10))), (false, .k (.sc (.bool true)))] []),
  o1 59 (.mv false (.s 68)),
  o1 69 (.ext false 0 (.s 59)),
  o1 70 (.ext false 1 (.s 59)),
  o1 71 (.nil (.s 60)),
  o1 72 (.fld 0 (.s 71)),
  o1 73 (.fld 11 (.s 72)),
  o0 (.store 74 11 1 false 73 (.s 69))]
def i_bbr_ctl_speed_0 : IC2 RW := .seq (.seq (.fin (.reg g_bbr_ctl_speed_4) [27, 28] []) (.seq (.fin (.reg g_bbr_ctl_speed_5) [29, 30, 31, 32, 33, 34, 35, 36, 37, 38, 39, 40, 41, 42, 43] []) (.fin (.cond (.s 44) (.seq (.fin (.reg g_bbr_ctl_speed_6) [44, 45, 46, 47, 48, 49, 50, 51, 52] []) (.fin (.reg g_bbr_ctl_speed_7) [6, 53, 54, 55, 56, 57, 58] [])) (.skip)) [6, 44] []))) (.fin (.reg g_bbr_ctl_speed_8) [0, 4, 5, 59, 60, 61, 62, 63, 64, 65, 66, 67, 68, 69, 70, 71, 72, 73] [])
def g_bbr_ctl_speed_0 : List (IStep2 RW) := [o1 3 (.box 97 8 false (.s 1))]
def g_bbr_ctl_speed_1 : List (IStep2 RW) := [o1 7 (.fld 3 (.s 3)),
  o1 8 (.load 97 3 1 false false 7),
  o1 9 (.mnmx false [.k (.sc (.int .i64 1099511627776)), .s 8]),
  o1 4 (.mv false (.s 9))]
def g_bbr_ctl_speed_2 : List (IStep2 RW) := [o1 10 (.mv false (.s 4)),
  o1 11 (.bin .eql (.s 10) (.k (.sc (.int .i64 0)))),
  o2 12 (.mv false (.s 11)),
  o3 13 12 false (.fld 4 (.s 3)),
  o3 14 12 false (.load 97 4 1 false false 13),
  ⟨some 15, .mv false (.s 14), (some (12, false)), true⟩,
  o3 16 15 true (.mv false (.s 4)),
  o3 17 15 true (.mv false (.s 0)),
  o3 18 15 true (.ro 1013 [(false, .s 17)] [(74, 22, 15)]),
  o3 19 15 true (.bin .lss (.s 16) (.s 18)),
  o3 20 12 false (.pick (.s 15) (.s 19) (.k (.sc (.bool false)))),
  o1 21 (.pick (.s 12) (.k (.sc (.bool true))) (.s 20))]
def g_bbr_ctl_speed_3 : List (IStep2 RW) := [o1 22 (.mv false (.s 0)),
  o1 23 (.nil (.s 22)),
  o1 24 (.fld 0 (.s 23)),
  o1 25 (.fld 11 (.s 24)),
  o1 26 (.load 74 11 1 false false 25),
  o1 5 (.mv false (.s 26))]
def i_bbr_ctl_speed_1 : IC2 RW := .seq (.fin (.reg g_bbr_ctl_speed_0) [1] []) (.seq (.fin (.reg g_bbr_ctl_speed_1) [7, 8, 9] []) (.seq (.seq (.fin (.reg g_bbr_ctl_speed_2) [3, 10, 11, 12, 13, 14, 15, 16, 17, 18, 19, 20] [(97, 8)]) (.fin (.cond (.s 21) (.clr [0, 4, 21] [] (.ret)) (.skip)) [21] [])) (.seq (.fin (.reg g_bbr_ctl_speed_3) [22, 23, 24, 25, 26] []) i_bbr_ctl_speed_0)))
def fn_bbr_ctl_speed : IFn2 RW := ⟨25, 2, 74, 112, [(74, 22), (97, 8)], [(74, 22)], [], i_bbr_ctl_speed_1⟩
def g_bbr_ctl_shortest_0 : List (IStep2 RW) := [o1 3 (.box 83 8 false (.s 1)),
  o1 4 (.mv false (.k (.sc (.bool false))))]
def g_bbr_ctl_shortest_1 : List (IStep2 RW) := [o1 6 (.mv false (.s 0)),
  o1 7 (.nil (.s 6)),
  o1 8 (.fld 0 (.s 7)),
  o1 9 (.fld 12 (.s 8)),
  o1 10 (.load 60 12 1 false false 9),
  o1 11 (.bin .gtr (.s 10) (.k (.sc (.int .i64 0)))),
  o2 12 (.mv false (.s 11)),
  o3 13 12 true (.fld 0 (.s 3)),
  o3 14 12 true (.load 83 0 1 false false 13),
  o3 15 12 true (.mv false (.s 0)),
  o3 16 12 true (.nil (.s 15)),
  o3 17 12 true (.fld 0 (.s 16)),
  o3 18 12 true (.fld 13 (.s 17)),
  o3 19 12 true (.load 60 13 1 false false 18),
  o3 20 12 true (.bin .sub (.s 14) (.s 19)),
  o3 21 12 true (.bin .gtr (.s 20) (.k (.sc (.int .i64 10000000)))),
  o1 22 (.pick (.s 12) (.s 21) (.k (.sc (.bool false)))),
  o1 5 (.mv false (.s 22))]
def g_bbr_ctl_shortest_2 : List (IStep2 RW) := [o1 23 (.fld 2 (.s 3)),
  o1 24 (.load 83 2 1 false false 23),
  o1 25 (.bin .gtr (.s 24) (.k (.sc (.int .i64 0)))),
  o2 26 (.mv false (.s 25)),
  o3 27 26 true (.mv false (.s 5)),
  ⟨some 28, .mv false (.s 27), (some (26, true)), true⟩,
  o3 29 28 false (.mv false (.s 0)),
  o3 30 28 false (.nil (.s 29)),
  o3 31 28 false (.fld 0 (.s 30)),
  o3 32 28 false (.fld 12 (.s 31)),
  o3 33 28 false (.load 60 12 1 false false 32),
  o3 34 28 false (.bin .eql (.s 33) (.k (.sc (.int .i64 0)))),
  o3 35 26 true (.pick (.s 28) (.k (.sc (.bool true))) (.s 34)),
  ⟨some 36, .mv false (.s 35), (some (26, true)), true⟩,
  o3 37 36 false (.fld 2 (.s 3)),
  o3 38 36 false (.load 83 2 1 false false 37),
  o3 39 36 false (.mv false (.s 0)),
  o3 40 36 false (.nil (.s 39)),
  o3 41 36 false (.fld 0 (.s 40)),
  o3 42 36 false (.fld 12 (.s 41)),
  o3 43 36 false (.load 60 12 1 false false 42),
  o3 44 36 false (.bin .leq (.s 38) (.s 43)),
  o3 45 26 true (.pick (.s 36) (.k (.sc (.bool true))) (.s 44)),
  o1 46 (.pick (.s 26) (.s 45) (.k (.sc (.bool false))))]
def g_bbr_ctl_shortest_3 : List (IStep2 RW) := [o1 47 (.mv false (.s 0)),
  o1 48 (.mv false (.s 0)),
  o1 49 (.fld 2 (.s 3)),
  o1 50 (.load 83 2 1 false false 49),
  o1 51 (.fld 0 (.s 3)),
  o1 52 (.load 83 0 1 false false 51),
  o1 53 (.nil (.s 47)),
  o1 54 (.fld 0 (.s 53)),
  o1 55 (.fld 12 (.s 54)),
  o0 (.store 60 12 1 false 55 (.s 50)),
  o1 56 (.nil (.s 48)),
  o1 57 (.fld 0 (.s 56)),
  o1 58 (.fld 13 (.s 57)),
  o0 (.store 60 13 1 false 58 (.s 52))]
def g_bbr_ctl_shortest_4 : List (IStep2 RW) := [o1 59 (.mv false (.s 5)),
  o1 4 (.mv false (.s 59))]
def i_bbr_ctl_shortest_0 : IC2 RW := .seq (.fin (.reg g_bbr_ctl_shortest_0) [1, 4] []) (.seq (.fin (.reg g_bbr_ctl_shortest_1) [6, 7, 8, 9, 10, 11, 12, 13, 14, 15, 16, 17, 18, 19, 20, 21, 22] []) (.seq (.seq (.fin (.reg g_bbr_ctl_shortest_2) [23, 24, 25, 26, 27, 28, 29, 30, 31, 32, 33, 34, 35, 36, 37, 38, 39, 40, 41, 42, 43, 44, 45] []) (.fin (.cond (.s 46) (.fin (.reg g_bbr_ctl_shortest_3) [0, 3, 46, 47, 48, 49, 50, 51, 52, 53, 54, 55, 56, 57, 58] [(83, 8)]) (.skip)) [0, 3, 46] [(83, 8)])) (.seq (.fin (.reg g_bbr_ctl_shortest_4) [5, 59] []) (.ret))))
def fn_bbr_ctl_shortest : IFn2 RW := ⟨26, 2, 60, 96, [(60, 22), (83, 8)], [(60, 22)], [.slot 4], i_bbr_ctl_shortest_0⟩
def g_bbr_ctl_full_0 : List (IStep2 RW) := [o1 3 (.mv false (.s 0)),
  o1 4 (.ro 1013 [(false, .s 3)] [(48, 22, 15)]),
  o1 2 (.mv false (.s 4))]
def g_bbr_ctl_full_4 : List (IStep2 RW) := [o1 27 (.mv false (.s 2)),
  o1 28 (.bin .eql (.s 27) (.k (.sc (.int .i64 0)))),
  o1 26 (.mv false (.s 28))]
def g_bbr_ctl_full_5 : List (IStep2 RW) := [o1 30 (.mv false (.s 2)),
  o1 31 (.bin .mul (.k (.sc (.int .i64 4))) (.s 30)),
  o1 32 (.mv false (.s 0)),
  o1 33 (.nil (.s 32)),
  o1 34 (.fld 0 (.s 33)),
  o1 35 (.fld 16 (.s 34)),
  o1 36 (.load 48 16 1 false false 35),
  o1 37 (.bin .mul (.k (.sc (.int .i64 5))) (.s 36)),
  o1 38 (.bin .geq (.s 31) (.s 37)),
  o1 29 (.mv false (.s 38))]
def g_bbr_ctl_full_6 : List (IStep2 RW) := [o1 39 (.mv false (.s 0)),
  o1 40 (.mv false (.s 0)),
  o1 41 (.mv false (.s 2)),
  o1 42 (.nil (.s 39)),
  o1 43 (.fld 0 (.s 42)),
  o1 44 (.fld 16 (.s 43)),
  o0 (.store 48 16 1 false 44 (.s 41)),
  o1 45 (.nil (.s 40)),
  o1 46 (.fld 0 (.s 45)),
  o1 47 (.fld 17 (.s 46)),
  o0 (.store 48 17 1 false 47 (.k (.sc (.int .i64 0))))]
def g_bbr_ctl_full_1 : List (IStep2 RW) := [o1 5 (.mv false (.s 0)),
  o1 6 (.mv false (.s 0)),
  o1 7 (.nil (.s 6)),
  o1 8 (.fld 0 (.s 7)),
  o1 9 (.fld 17 (.s 8)),
  o1 10 (.load 48 17 1 false false 9),
  o1 11 (.bin .add (.s 10) (.k (.sc (.int .i64 1)))),
  o1 12 (.mnmx false [.k (.sc (.int .i64 3)), .s 11]),
  o1 13 (.nil (.s 5)),
  o1 14 (.fld 0 (.s 13)),
  o1 15 (.fld 17 (.s 14)),
  o0 (.store 48 17 1 false 15 (.s 12))]
def g_bbr_ctl_full_2 : List (IStep2 RW) := [o1 16 (.mv false (.s 0)),
  o1 17 (.nil (.s 16)),
  o1 18 (.fld 0 (.s 17)),
  o1 19 (.fld 17 (.s 18)),
  o1 20 (.load 48 17 1 false false 19),
  o1 21 (.bin .eql (.s 20) (.k (.sc (.int .i64 3))))]
def g_bbr_ctl_full_3 : List (IStep2 RW) := [o1 22 (.mv false (.s 0)),
  o1 23 (.nil (.s 22)),
  o1 24 (.fld 0 (.s 23)),
  o1 25 (.fld 10 (.s 24)),
  o0 (.store 48 10 1 false 25 (.k (.sc (.int .i64 2))))]
def i_bbr_ctl_full_0 : IC2 RW := .seq (.fin (.reg g_bbr_ctl_full_0) [3, 4] []) (.blk 0 (.seq (.fin (.reg g_bbr_ctl_full_4) [27, 28] []) (.fin (.cond (.s 26) (.skip) (.seq (.fin (.reg g_bbr_ctl_full_5) [26, 30, 31, 32, 33, 34, 35, 36, 37, 38] []) (.cond (.s 29) (.fin (.reg g_bbr_ctl_full_6) [0, 2, 29, 39, 40, 41, 42, 43, 44, 45, 46, 47] []) (.seq (.fin (.reg g_bbr_ctl_full_1) [2, 5, 6, 7, 8, 9, 10, 11, 12, 13, 14, 15, 29] []) (.seq (.fin (.reg g_bbr_ctl_full_2) [16, 17, 18, 19, 20] []) (.fin (.cond (.s 21) (.fin (.reg g_bbr_ctl_full_3) [0, 21, 22, 23, 24, 25] []) (.skip)) [0, 21] [])))))) [0, 2, 26] [])))
def fn_bbr_ctl_full : IFn2 RW := ⟨27, 1, 48, 80, [(48, 22)], [(48, 22)], [], i_bbr_ctl_full_0⟩
def g_math_bits_Mul64_0 : List (IStep2 RW) := [o1 4 (.mv false (.k (.sc (.int .u64 0)))),
  o1 5 (.mv false (.k (.sc (.int .u64 0))))]
def g_math_bits_Mul64_1 : List (IStep2 RW) := [o1 14 (.mv false (.s 0)),
  o1 15 (.bin .and (.s 14) (.k (.sc (.int .u64 4294967295)))),
  o1 6 (.mv false (.s 15))]
def g_math_bits_Mul64_2 : List (IStep2 RW) := [o1 16 (.mv false (.s 0)),
  o1 17 (.bin .shr (.s 16) (.k (.sc (.int .u64 32)))),
  o1 7 (.mv false (.s 17))]
def g_math_bits_Mul64_3 : List (IStep2 RW) := [o1 18 (.mv false (.s 1)),
  o1 19 (.bin .and (.s 18) (.k (.sc (.int .u64 4294967295)))),
  o1 8 (.mv false (.s 19))]
def g_math_bits_Mul64_4 : List (IStep2 RW) := [o1 20 (.mv false (.s 1)),
  o1 21 (.bin .shr (.s 20) (.k (.sc (.int .u64 32)))),
  o1 9 (.mv false (.s 21))]
def g_math_bits_Mul64_5 : List (IStep2 RW) := [o1 22 (.mv false (.s 6)),
  o1 23 (.mv false (.s 8)),
  o1 24 (.bin .mul (.s 22) (.s 23)),
  o1 10 (.mv false (.s 24))]
def g_math_bits_Mul64_6 : List (IStep2 RW) := [o1 25 (.mv false (.s 7)),
  o1 26 (.mv false (.s 8)),
  o1 27 (.bin .mul (.s 25) (.s 26)),
  o1 28 (.mv false (.s 10)),
  o1 29 (.bin .shr (.s 28) (.k (.sc (.int .u64 32)))),
  o1 30 (.bin .add (.s 27) (.s 29)),
  o1 11 (.mv false (.s 30))]
def g_math_bits_Mul64_7 : List (IStep2 RW) := [o1 31 (.mv false (.s 11)),
  o1 32 (.bin .and (.s 31) (.k (.sc (.int .u64 4294967295)))),
  o1 12 (.mv false (.s 32))]
def g_math_bits_Mul64_8 : List (IStep2 RW) := [o1 33 (.mv false (.s 11)),
  o1 34 (.bin .shr (.s 33) (.k (.sc (.int .u64 32)))),
  o1 13 (.mv false (.s 34))]
def g_math_bits_Mul64_9 : List (IStep2 RW) := [o1 35 (.mv false (.s 12)),
  o1 36 (.mv false (.s 6)),
  o1 37 (.mv false (.s 9)),
  o1 38 (.bin .mul (.s 36) (.s 37)),
  o1 39 (.bin .add (.s 35) (.s 38)),
  o1 12 (.mv false (.s 39))]
def g_math_bits_Mul64_10 : List (IStep2 RW) := [o1 40 (.mv false (.s 7)),
  o1 41 (.mv false (.s 9)),
  o1 42 (.bin .mul (.s 40) (.s 41)),
  o1 43 (.mv false (.s 13)),
  o1 44 (.bin .add (.s 42) (.s 43)),
  o1 45 (.mv false (.s 12)),
  o1 46 (.bin .shr (.s 45) (.k (.sc (.int .u64 32)))),
  o1 47 (.bin .add (.s 44) (.s 46)),
  o1 4 (.mv false (.s 47))]
def g_math_bits_Mul64_11 : List (IStep2 RW) := [o1 48 (.mv false (.s 0)),
  o1 49 (.mv false (.s 1)),
  o1 50 (.bin .mul (.s 48) (.s 49)),
  o1 5 (.mv false (.s 50))]
def i_math_bits_Mul64_0 : IC2 RW := .seq (.fin (.reg g_math_bits_Mul64_0) [4, 5] []) (.seq (.fin (.reg g_math_bits_Mul64_1) [14, 15] []) (.seq (.fin (.reg g_math_bits_Mul64_2) [16, 17] []) (.seq (.fin (.reg g_math_bits_Mul64_3) [18, 19] []) (.seq (.fin (.reg g_math_bits_Mul64_4) [20, 21] []) (.seq (.fin (.reg g_math_bits_Mul64_5) [22, 23, 24] []) (.seq (.fin (.reg g_math_bits_Mul64_6) [8, 10, 25, 26, 27, 28, 29, 30] []) (.seq (.fin (.reg g_math_bits_Mul64_7) [31, 32] []) (.seq (.fin (.reg g_math_bits_Mul64_8) [11, 33, 34] []) (.seq (.fin (.reg g_math_bits_Mul64_9) [6, 35, 36, 37, 38, 39] []) (.seq (.fin (.reg g_math_bits_Mul64_10) [7, 9, 12, 13, 40, 41, 42, 43, 44, 45, 46, 47] []) (.seq (.fin (.reg g_math_bits_Mul64_11) [0, 1, 48, 49, 50] []) (.ret))))))))))))
def fn_math_bits_Mul64 : IFn2 RW := ⟨46, 2, 51, 64, [], [], [.slot 4, .slot 5], i_math_bits_Mul64_0⟩
def g_math_bits_Len64_0 : List (IStep2 RW) := [o1 2 (.mv false (.k (.sc (.int .i64 0))))]
def g_math_bits_Len64_1 : List (IStep2 RW) := [o1 3 (.mv false (.s 0)),
  o1 4 (.bin .geq (.s 3) (.k (.sc (.int .u64 4294967296))))]
def g_math_bits_Len64_2 : List (IStep2 RW) := [o1 5 (.mv false (.s 0)),
  o1 6 (.bin .shr (.s 5) (.k (.sc (.int .u64 32)))),
  o1 0 (.mv false (.s 6))]
def g_math_bits_Len64_3 : List (IStep2 RW) := [o1 2 (.mv false (.k (.sc (.int .i64 32))))]
def g_math_bits_Len64_4 : List (IStep2 RW) := [o1 7 (.mv false (.s 0)),
  o1 8 (.bin .geq (.s 7) (.k (.sc (.int .u64 65536))))]
def g_math_bits_Len64_5 : List (IStep2 RW) := [o1 9 (.mv false (.s 0)),
  o1 10 (.bin .shr (.s 9) (.k (.sc (.int .u64 16)))),
  o1 0 (.mv false (.s 10))]
def g_math_bits_Len64_6 : List (IStep2 RW) := [o1 11 (.mv false (.s 2)),
  o1 12 (.bin .add (.s 11) (.k (.sc (.int .i64 16)))),
  o1 2 (.mv false (.s 12))]
def g_math_bits_Len64_7 : List (IStep2 RW) := [o1 13 (.mv false (.s 0)),
  o1 14 (.bin .geq (.s 13) (.k (.sc (.int .u64 256))))]
def g_math_bits_Len64_8 : List (IStep2 RW) := [o1 15 (.mv false (.s 0)),
  o1 16 (.bin .shr (.s 15) (.k (.sc (.int .u64 8)))),
  o1 0 (.mv false (.s 16))]
def g_math_bits_Len64_9 : List (IStep2 RW) := [o1 17 (.mv false (.s 2)),
  o1 18 (.bin .add (.s 17) (.k (.sc (.int .i64 8)))),
  o1 2 (.mv false (.s 18))]
def g_math_bits_Len64_10 : List (IStep2 RW) := [o1 19 (.mv false (.s 2)),
  o1 20 (.mv false (.s 0)),
  o1 21 (.conv .u8 (.s 20)),
  o1 22 (.sidx (.k (.sc (.string tab256_2793))) (.s 21)),
  o1 23 (.conv .i64 (.s 22)),
  o1 24 (.bin .add (.s 19) (.s 23)),
  o1 2 (.mv false (.s 24))]
def i_math_bits_Len64_0 : IC2 RW := .seq (.reg g_math_bits_Len64_0) (.seq (.seq (.fin (.reg g_math_bits_Len64_1) [3] []) (.fin (.cond (.s 4) (.seq (.fin (.reg g_math_bits_Len64_2) [2, 4, 5, 6] []) (.reg g_math_bits_Len64_3)) (.skip)) [4] [])) (.seq (.seq (.fin (.reg g_math_bits_Len64_4) [7] []) (.fin (.cond (.s 8) (.seq (.fin (.reg g_math_bits_Len64_5) [8, 9, 10] []) (.fin (.reg g_math_bits_Len64_6) [11, 12] [])) (.skip)) [8] [])) (.seq (.seq (.fin (.reg g_math_bits_Len64_7) [13] []) (.fin (.cond (.s 14) (.seq (.fin (.reg g_math_bits_Len64_8) [14, 15, 16] []) (.fin (.reg g_math_bits_Len64_9) [17, 18] [])) (.skip)) [14] [])) (.seq (.fin (.reg g_math_bits_Len64_10) [0, 19, 20, 21, 22, 23, 24] []) (.ret)))))
def fn_math_bits_Len64 : IFn2 RW := ⟨49, 1, 25, 32, [], [], [.slot 2], i_math_bits_Len64_0⟩
def g_math_bits_LeadingZeros64_0 : List (IStep2 RW) := [o1 2 (.mv false (.k (.sc (.int .i64 0))))]
def g_math_bits_LeadingZeros64_1 : List (IStep2 RW) := [o1 3 (.mv false (.s 0)),
  o1 4 (.call 49 [(false, .s 3)] []),
  o1 5 (.bin .sub (.k (.sc (.int .i64 64))) (.s 4)),
  o1 2 (.mv false (.s 5))]
def i_math_bits_LeadingZeros64_0 : IC2 RW := .seq (.fin (.reg g_math_bits_LeadingZeros64_0) [2] []) (.seq (.fin (.reg g_math_bits_LeadingZeros64_1) [0, 3, 4, 5] []) (.ret))
def fn_math_bits_LeadingZeros64 : IFn2 RW := ⟨48, 1, 6, 16, [], [], [.slot 2], i_math_bits_LeadingZeros64_0⟩
def g_math_bits_Div64_17 : List (IStep2 RW) := [o1 67 (.mv false (.s 15)),
  o1 68 (.bin .geq (.s 67) (.k (.sc (.int .u64 4294967296)))),
  o2 69 (.mv false (.s 68)),
  o3 70 69 false (.mv false (.s 15)),
  o3 71 69 false (.mv false (.s 10)),
  o3 72 69 false (.bin .mul (.s 70) (.s 71)),
  o3 73 69 false (.mv false (.s 16)),
  o3 74 69 false (.bin .mul (.k (.sc (.int .u64 4294967296))) (.s 73)),
  o3 75 69 false (.mv false (.s 13)),
  o3 76 69 false (.bin .add (.s 74) (.s 75)),
  o3 77 69 false (.bin .gtr (.s 72) (.s 76)),
  o1 78 (.pick (.s 69) (.k (.sc (.bool true))) (.s 77))]
def g_math_bits_Div64_18 : List (IStep2 RW) := [o1 79 (.mv false (.s 15)),
  o1 80 (.bin .sub (.s 79) (.k (.sc (.int .u64 1)))),
  o1 15 (.mv false (.s 80))]
def g_math_bits_Div64_19 : List (IStep2 RW) := [o1 81 (.mv false (.s 16)),
  o1 82 (.mv false (.s 9)),
  o1 83 (.bin .add (.s 81) (.s 82)),
  o1 16 (.mv false (.s 83))]
def g_math_bits_Div64_20 : List (IStep2 RW) := [o1 84 (.mv false (.s 16)),
  o1 85 (.bin .geq (.s 84) (.k (.sc (.int .u64 4294967296))))]
def i_math_bits_Div64_0 : IC2 RW := .seq (.seq (.fin (.reg g_math_bits_Div64_17) [67, 68, 69, 70, 71, 72, 73, 74, 75, 76, 77] []) (.fin (.cond (.s 78) (.skip) (.clr [16, 78] [] (.exit 0))) [78] [])) (.blk 1 (.seq (.fin (.reg g_math_bits_Div64_18) [79, 80] []) (.seq (.fin (.reg g_math_bits_Div64_19) [81, 82, 83] []) (.seq (.fin (.reg g_math_bits_Div64_20) [84] []) (.fin (.cond (.s 85) (.clr [16, 85] [] (.exit 0)) (.skip)) [85] [])))))
def i_math_bits_Div64_1 : IC2 RW := .loop i_math_bits_Div64_0
def i_math_bits_Div64_2 : IC2 RW := .blk 0 i_math_bits_Div64_1
def g_math_bits_Div64_24 : List (IStep2 RW) := [o1 102 (.mv false (.s 18)),
  o1 103 (.bin .geq (.s 102) (.k (.sc (.int .u64 4294967296)))),
  o2 104 (.mv false (.s 103)),
  o3 105 104 false (.mv false (.s 18)),
  o3 106 104 false (.mv false (.s 10)),
  o3 107 104 false (.bin .mul (.s 105) (.s 106)),
  o3 108 104 false (.mv false (.s 16)),
  o3 109 104 false (.bin .mul (.k (.sc (.int .u64 4294967296))) (.s 108)),
  o3 110 104 false (.mv false (.s 14)),
  o3 111 104 false (.bin .add (.s 109) (.s 110)),
  o3 112 104 false (.bin .gtr (.s 107) (.s 111)),
  o1 113 (.pick (.s 104) (.k (.sc (.bool true))) (.s 112))]
def g_math_bits_Div64_25 : List (IStep2 RW) := [o1 114 (.mv false (.s 18)),
  o1 115 (.bin .sub (.s 114) (.k (.sc (.int .u64 1)))),
  o1 18 (.mv false (.s 115))]
def g_math_bits_Div64_26 : List (IStep2 RW) := [o1 116 (.mv false (.s 16)),
  o1 117 (.mv false (.s 9)),
  o1 118 (.bin .add (.s 116) (.s 117)),
  o1 16 (.mv false (.s 118))]
def g_math_bits_Div64_27 : List (IStep2 RW) := [o1 119 (.mv false (.s 16)),
  o1 120 (.bin .geq (.s 119) (.k (.sc (.int .u64 4294967296))))]
def i_math_bits_Div64_3 : IC2 RW := .seq (.seq (.fin (.reg g_math_bits_Div64_24) [102, 103, 104, 105, 106, 107, 108, 109, 110, 111, 112] []) (.fin (.cond (.s 113) (.skip) (.clr [9, 10, 16, 113] [] (.exit 2))) [113] [])) (.blk 3 (.seq (.fin (.reg g_math_bits_Div64_25) [114, 115] []) (.seq (.fin (.reg g_math_bits_Div64_26) [116, 117, 118] []) (.seq (.fin (.reg g_math_bits_Div64_27) [119] []) (.fin (.cond (.s 120) (.clr [9, 10, 16, 120] [] (.exit 2)) (.skip)) [120] [])))))
def i_math_bits_Div64_4 : IC2 RW := .loop i_math_bits_Div64_3
def i_math_bits_Div64_5 : IC2 RW := .blk 2 i_math_bits_Div64_4
def g_math_bits_Div64_28 : List (IStep2 RW) := [o1 121 (.mv false (.s 15)),
  o1 122 (.bin .mul (.s 121) (.k (.sc (.int .u64 4294967296)))),
  o1 123 (.mv false (.s 18)),
  o1 124 (.bin .add (.s 122) (.s 123)),
  o1 125 (.mv false (.s 17)),
  o1 126 (.bin .mul (.s 125) (.k (.sc (.int .u64 4294967296)))),
  o1 127 (.mv false (.s 14)),
  o1 128 (.bin .add (.s 126) (.s 127)),
  o1 129 (.mv false (.s 18)),
  o1 130 (.mv false (.s 2)),
  o1 131 (.bin .mul (.s 129) (.s 130)),
  o1 132 (.bin .sub (.s 128) (.s 131)),
  o1 133 (.mv false (.s 8)),
  o1 134 (.bin .shr (.s 132) (.s 133)),
  o1 6 (.mv false (.s 124)),
  o1 7 (.mv false (.s 134))]
def i_math_bits_Div64_6 : IC2 RW := .seq (.fin (.reg g_math_bits_Div64_28) [2, 8, 14, 15, 17, 18, 121, 122, 123, 124, 125, 126, 127, 128, 129, 130, 131, 132, 133, 134] []) (.ret)
def i_math_bits_Div64_7 : IC2 RW := .seq i_math_bits_Div64_5 i_math_bits_Div64_6
def g_math_bits_Div64_21 : List (IStep2 RW) := [o1 86 (.mv false (.s 11)),
  o1 87 (.bin .mul (.s 86) (.k (.sc (.int .u64 4294967296)))),
  o1 88 (.mv false (.s 13)),
  o1 89 (.bin .add (.s 87) (.s 88)),
  o1 90 (.mv false (.s 15)),
  o1 91 (.mv false (.s 2)),
  o1 92 (.bin .mul (.s 90) (.s 91)),
  o1 93 (.bin .sub (.s 89) (.s 92)),
  o1 17 (.mv false (.s 93))]
def g_math_bits_Div64_22 : List (IStep2 RW) := [o1 94 (.mv false (.s 17)),
  o1 95 (.mv false (.s 9)),
  o1 96 (.bin .quo (.s 94) (.s 95)),
  o1 18 (.mv false (.s 96))]
def g_math_bits_Div64_23 : List (IStep2 RW) := [o1 97 (.mv false (.s 17)),
  o1 98 (.mv false (.s 18)),
  o1 99 (.mv false (.s 9)),
  o1 100 (.bin .mul (.s 98) (.s 99)),
  o1 101 (.bin .sub (.s 97) (.s 100)),
  o1 16 (.mv false (.s 101))]
def i_math_bits_Div64_8 : IC2 RW := .seq (.fin (.reg g_math_bits_Div64_21) [11, 13, 86, 87, 88, 89, 90, 91, 92, 93] []) (.seq (.fin (.reg g_math_bits_Div64_22) [94, 95, 96] []) (.seq (.fin (.reg g_math_bits_Div64_23) [97, 98, 99, 100, 101] []) i_math_bits_Div64_7))
def i_math_bits_Div64_9 : IC2 RW := .seq i_math_bits_Div64_2 i_math_bits_Div64_8
def g_math_bits_Div64_0 : List (IStep2 RW) := [o1 6 (.mv false (.k (.sc (.int .u64 0)))),
  o1 7 (.mv false (.k (.sc (.int .u64 0))))]
def g_math_bits_Div64_1 : List (IStep2 RW) := [o1 19 (.mv false (.s 2)),
  o1 20 (.bin .eql (.s 19) (.k (.sc (.int .u64 0))))]
def g_math_bits_Div64_3 : List (IStep2 RW) := [o1 22 (.mv false (.s 2)),
  o1 23 (.mv false (.s 0)),
  o1 24 (.bin .leq (.s 22) (.s 23))]
def g_math_bits_Div64_5 : List (IStep2 RW) := [o1 26 (.mv false (.s 0)),
  o1 27 (.bin .eql (.s 26) (.k (.sc (.int .u64 0))))]
def g_math_bits_Div64_6 : List (IStep2 RW) := [o1 28 (.mv false (.s 1)),
  o1 29 (.mv false (.s 2)),
  o1 30 (.bin .quo (.s 28) (.s 29)),
  o1 31 (.mv false (.s 1)),
  o1 32 (.mv false (.s 2)),
  o1 33 (.bin .rem (.s 31) (.s 32)),
  o1 6 (.mv false (.s 30)),
  o1 7 (.mv false (.s 33))]
def g_math_bits_Div64_7 : List (IStep2 RW) := [o1 34 (.mv false (.s 2)),
  o1 35 (.call 48 [(false, .s 34)] []),
  o1 36 (.conv .u64 (.s 35)),
  o1 8 (.mv false (.s 36))]
def g_math_bits_Div64_8 : List (IStep2 RW) := [o1 37 (.mv false (.s 2)),
  o1 38 (.mv false (.s 8)),
  o1 39 (.bin .shl (.s 37) (.s 38)),
  o1 2 (.mv false (.s 39))]
def g_math_bits_Div64_9 : List (IStep2 RW) := [o1 40 (.mv false (.s 2)),
  o1 41 (.bin .shr (.s 40) (.k (.sc (.int .u64 32)))),
  o1 9 (.mv false (.s 41))]
def g_math_bits_Div64_10 : List (IStep2 RW) := [o1 42 (.mv false (.s 2)),
  o1 43 (.bin .and (.s 42) (.k (.sc (.int .u64 4294967295)))),
  o1 10 (.mv false (.s 43))]
def g_math_bits_Div64_11 : List (IStep2 RW) := [o1 44 (.mv false (.s 0)),
  o1 45 (.mv false (.s 8)),
  o1 46 (.bin .shl (.s 44) (.s 45)),
  o1 47 (.mv false (.s 1)),
  o1 48 (.mv false (.s 8)),
  o1 49 (.bin .sub (.k (.sc (.int .u64 64))) (.s 48)),
  o1 50 (.bin .shr (.s 47) (.s 49)),
  o1 51 (.bin .or (.s 46) (.s 50)),
  o1 11 (.mv false (.s 51))]
def g_math_bits_Div64_12 : List (IStep2 RW) := [o1 52 (.mv false (.s 1)),
  o1 53 (.mv false (.s 8)),
  o1 54 (.bin .shl (.s 52) (.s 53)),
  o1 12 (.mv false (.s 54))]
def g_math_bits_Div64_13 : List (IStep2 RW) := [o1 55 (.mv false (.s 12)),
  o1 56 (.bin .shr (.s 55) (.k (.sc (.int .u64 32)))),
  o1 13 (.mv false (.s 56))]
def g_math_bits_Div64_14 : List (IStep2 RW) := [o1 57 (.mv false (.s 12)),
  o1 58 (.bin .and (.s 57) (.k (.sc (.int .u64 4294967295)))),
  o1 14 (.mv false (.s 58))]
def g_math_bits_Div64_15 : List (IStep2 RW) := [o1 59 (.mv false (.s 11)),
  o1 60 (.mv false (.s 9)),
  o1 61 (.bin .quo (.s 59) (.s 60)),
  o1 15 (.mv false (.s 61))]
def g_math_bits_Div64_16 : List (IStep2 RW) := [o1 62 (.mv false (.s 11)),
  o1 63 (.mv false (.s 15)),
  o1 64 (.mv false (.s 9)),
  o1 65 (.bin .mul (.s 63) (.s 64)),
  o1 66 (.bin .sub (.s 62) (.s 65)),
  o1 16 (.mv false (.s 66))]
def i_math_bits_Div64_10 : IC2 RW := .seq (.fin (.reg g_math_bits_Div64_0) [6, 7] []) (.seq (.seq (.fin (.reg g_math_bits_Div64_1) [19] []) (.fin (.cond (.s 20) (.stuck) (.skip)) [20] [])) (.seq (.seq (.fin (.reg g_math_bits_Div64_3) [22, 23] []) (.fin (.cond (.s 24) (.stuck) (.skip)) [24] [])) (.seq (.seq (.fin (.reg g_math_bits_Div64_5) [26] []) (.fin (.cond (.s 27) (.seq (.fin (.reg g_math_bits_Div64_6) [0, 1, 2, 27, 28, 29, 30, 31, 32, 33] []) (.ret)) (.skip)) [27] [])) (.seq (.fin (.reg g_math_bits_Div64_7) [34, 35, 36] []) (.seq (.fin (.reg g_math_bits_Div64_8) [37, 38, 39] []) (.seq (.fin (.reg g_math_bits_Div64_9) [40, 41] []) (.seq (.fin (.reg g_math_bits_Div64_10) [42, 43] []) (.seq (.fin (.reg g_math_bits_Div64_11) [0, 44, 45, 46, 47, 48, 49, 50, 51] []) (.seq (.fin (.reg g_math_bits_Div64_12) [1, 52, 53, 54] []) (.seq (.fin (.reg g_math_bits_Div64_13) [55, 56] []) (.seq (.fin (.reg g_math_bits_Div64_14) [12, 57, 58] []) (.seq (.fin (.reg g_math_bits_Div64_15) [59, 60, 61] []) (.seq (.fin (.reg g_math_bits_Div64_16) [62, 63, 64, 65, 66] []) i_math_bits_Div64_9)))))))))))))
def fn_math_bits_Div64 : IFn2 RW := ⟨47, 3, 135, 144, [], [], [.slot 6, .slot 7], i_math_bits_Div64_10⟩
def g_seq_MulDiv_0 : List (IStep2 RW) := [o1 6 (.mv false (.k (.sc (.int .i64 0)))),
  o1 7 (.mv false (.k (.sc (.int .i64 0))))]
def g_seq_MulDiv_1 : List (IStep2 RW) := [o1 12 (.mv false (.s 0)),
  o1 13 (.bin .lss (.s 12) (.k (.sc (.int .i64 0)))),
  o2 14 (.mv false (.s 13)),
  o3 15 14 false (.mv false (.s 1)),
  o3 16 14 false (.bin .lss (.s 15) (.k (.sc (.int .i64 0)))),
  o1 17 (.pick (.s 14) (.k (.sc (.bool true))) (.s 16)),
  o2 18 (.mv false (.s 17)),
  o3 19 18 false (.mv false (.s 2)),
  o3 20 18 false (.bin .leq (.s 19) (.k (.sc (.int .i64 0)))),
  o1 21 (.pick (.s 18) (.k (.sc (.bool true))) (.s 20))]
def g_seq_MulDiv_2 : List (IStep2 RW) := [o1 6 (.mv false (.k (.sc (.int .i64 0)))),
  o1 7 (.mv false (.k (.sc (.int .i64 2))))]
def g_seq_MulDiv_3 : List (IStep2 RW) := [o1 23 (.mv false (.s 0)),
  o1 24 (.conv .u64 (.s 23)),
  o1 25 (.mv false (.s 1)),
  o1 26 (.conv .u64 (.s 25)),
  o1 27 (.call 46 [(false, .s 24), (false, .s 26)] []),
  o1 22 (.mv false (.s 27)),
  o1 28 (.ext false 0 (.s 22)),
  o1 29 (.ext false 1 (.s 22)),
  o1 8 (.mv false (.s 28)),
  o1 9 (.mv false (.s 29))]
def g_seq_MulDiv_4 : List (IStep2 RW) := [o1 30 (.mv false (.s 8)),
  o1 31 (.mv false (.s 2)),
  o1 32 (.conv .u64 (.s 31)),
  o1 33 (.bin .geq (.s 30) (.s 32))]
def g_seq_MulDiv_5 : List (IStep2 RW) := [o1 6 (.mv false (.k (.sc (.int .i64 9223372036854775807)))),
  o1 7 (.mv false (.k (.sc (.int .i64 0))))]
def g_seq_MulDiv_6 : List (IStep2 RW) := [o1 35 (.mv false (.s 8)),
  o1 36 (.mv false (.s 9)),
  o1 37 (.mv false (.s 2)),
  o1 38 (.conv .u64 (.s 37)),
  o1 39 (.call 47 [(false, .s 35), (false, .s 36), (false, .s 38)] []),
  o1 34 (.mv false (.s 39)),
  o1 40 (.ext false 0 (.s 34)),
  o1 41 (.ext false 1 (.s 34)),
  o1 10 (.mv false (.s 40)),
  o1 11 (.mv false (.s 41))]
def g_seq_MulDiv_7 : List (IStep2 RW) := [o1 42 (.mv false (.s 10)),
  o1 43 (.mnmx false [.s 42, .k (.sc (.int .u64 9223372036854775807))]),
  o1 44 (.conv .i64 (.s 43)),
  o1 6 (.mv false (.s 44)),
  o1 7 (.mv false (.k (.sc (.int .i64 0))))]
def i_seq_MulDiv_0 : IC2 RW := .seq (.fin (.reg g_seq_MulDiv_0) [6, 7] []) (.seq (.seq (.fin (.reg g_seq_MulDiv_1) [12, 13, 14, 15, 16, 17, 18, 19, 20] []) (.fin (.cond (.s 21) (.seq (.fin (.reg g_seq_MulDiv_2) [0, 1, 2, 21] []) (.ret)) (.skip)) [21] [])) (.seq (.fin (.reg g_seq_MulDiv_3) [0, 1, 22, 23, 24, 25, 26, 27, 28, 29] []) (.seq (.seq (.fin (.reg g_seq_MulDiv_4) [30, 31, 32] []) (.fin (.cond (.s 33) (.seq (.fin (.reg g_seq_MulDiv_5) [2, 8, 9, 33] []) (.ret)) (.skip)) [33] [])) (.seq (.fin (.reg g_seq_MulDiv_6) [2, 8, 9, 11, 34, 35, 36, 37, 38, 39, 40, 41] []) (.seq (.fin (.reg g_seq_MulDiv_7) [10, 42, 43, 44] []) (.ret))))))
def fn_seq_MulDiv : IFn2 RW := ⟨41, 3, 45, 48, [], [], [.slot 6, .slot 7], i_seq_MulDiv_0⟩
def g_bbr_ctl_product_0 : List (IStep2 RW) := [o1 2 (.mv false (.k (.sc (.int .i64 0))))]
def g_bbr_ctl_product_1 : List (IStep2 RW) := [o1 6 (.mv false (.s 0)),
  o1 7 (.ro 1013 [(false, .s 6)] [(18, 22, 15)]),
  o1 8 (.mv false (.s 0)),
  o1 9 (.nil (.s 8)),
  o1 10 (.fld 0 (.s 9)),
  o1 11 (.fld 12 (.s 10)),
  o1 12 (.load 18 12 1 false false 11),
  o1 13 (.call 41 [(false, .s 7), (false, .s 12), (false, .k (.sc (.int .i64 1000000)))] []),
  o1 5 (.mv false (.s 13)),
  o1 14 (.ext false 0 (.s 5)),
  o1 15 (.ext false 1 (.s 5)),
  o1 3 (.mv false (.s 14)),
  o1 4 (.mv false (.s 15))]
def g_bbr_ctl_product_2 : List (IStep2 RW) := [o1 16 (.mv false (.s 3)),
  o1 17 (.mnmx false [.k (.sc (.int .i64 1073741824)), .s 16]),
  o1 2 (.mv false (.s 17))]
def i_bbr_ctl_product_0 : IC2 RW := .seq (.fin (.reg g_bbr_ctl_product_0) [2] []) (.seq (.fin (.reg g_bbr_ctl_product_1) [0, 4, 5, 6, 7, 8, 9, 10, 11, 12, 13, 14, 15] []) (.seq (.fin (.reg g_bbr_ctl_product_2) [3, 16, 17] []) (.ret)))
def fn_bbr_ctl_product : IFn2 RW := ⟨32, 1, 18, 48, [(18, 22)], [(18, 22)], [.slot 2], i_bbr_ctl_product_0⟩
def g_bbr_ctl_probe_0 : List (IStep2 RW) := [o1 4 (.mv false (.s 0)),
  o1 5 (.mv false (.s 0)),
  o1 6 (.mv false (.s 0)),
  o1 7 (.mv false (.s 1)),
  o1 8 (.nil (.s 4)),
  o1 9 (.fld 0 (.s 8)),
  o1 10 (.fld 10 (.s 9)),
  o0 (.store 17 10 1 false 10 (.k (.sc (.int .i64 3)))),
  o1 11 (.nil (.s 5)),
  o1 12 (.fld 0 (.s 11)),
  o1 13 (.fld 18 (.s 12)),
  o0 (.store 17 18 1 false 13 (.k (.sc (.int .i64 2)))),
  o1 14 (.nil (.s 6)),
  o1 15 (.fld 0 (.s 14)),
  o1 16 (.fld 19 (.s 15)),
  o0 (.store 17 19 1 false 16 (.s 7))]
def i_bbr_ctl_probe_0 : IC2 RW := .fin (.reg g_bbr_ctl_probe_0) [0, 1, 4, 5, 6, 7, 8, 9, 10, 11, 12, 13, 14, 15, 16] []
def fn_bbr_ctl_probe : IFn2 RW := ⟨38, 2, 17, 48, [(17, 22)], [(17, 22)], [], i_bbr_ctl_probe_0⟩
def g_bbr_ctl_cycle_0 : List (IStep2 RW) := [o1 3 (.box 85 8 false (.s 1))]
def g_bbr_ctl_cycle_1 : List (IStep2 RW) := [o1 5 (.mv false (.s 0)),
  o1 6 (.nil (.s 5)),
  o1 7 (.fld 0 (.s 6)),
  o1 8 (.fld 10 (.s 7)),
  o1 9 (.load 62 10 1 false false 8),
  o1 10 (.bin .eql (.s 9) (.k (.sc (.int .i64 2)))),
  o2 11 (.mv false (.s 10)),
  o3 12 11 true (.fld 7 (.s 3)),
  o3 13 11 true (.load 85 7 1 false false 12),
  o3 14 11 true (.mv false (.s 0)),
  o3 15 11 true (.ro 1019 [(false, .s 14)] [(62, 22, 18)]),
  o3 16 11 true (.bin .leq (.s 13) (.s 15)),
  o1 17 (.pick (.s 11) (.s 16) (.k (.sc (.bool false)))),
  o1 4 (.mv false (.s 17))]
def g_bbr_ctl_cycle_2 : List (IStep2 RW) := [o1 18 (.mv false (.s 0)),
  o1 19 (.fld 0 (.s 3)),
  o1 20 (.load 85 0 1 false false 19),
  o1 21 (.call 1025 [(false, .s 18), (false, .s 20)] [(62, 22, 17)])]
def g_bbr_ctl_cycle_3 : List (IStep2 RW) := [o1 23 (.mv false (.s 0)),
  o1 24 (.nil (.s 23)),
  o1 25 (.fld 0 (.s 24)),
  o1 26 (.fld 10 (.s 25)),
  o1 27 (.load 62 10 1 false false 26),
  o1 28 (.bin .eql (.s 27) (.k (.sc (.int .i64 3)))),
  o2 29 (.mv false (.s 28)),
  o3 30 29 true (.fld 0 (.s 3)),
  o3 31 29 true (.load 85 0 1 false false 30),
  o3 32 29 true (.mv false (.s 0)),
  o3 33 29 true (.nil (.s 32)),
  o3 34 29 true (.fld 0 (.s 33)),
  o3 35 29 true (.fld 19 (.s 34)),
  o3 36 29 true (.load 62 19 1 false false 35),
  o3 37 29 true (.bin .sub (.s 31) (.s 36)),
  o3 38 29 true (.mv false (.s 0)),
  o3 39 29 true (.nil (.s 38)),
  o3 40 29 true (.fld 0 (.s 39)),
  o3 41 29 true (.fld 12 (.s 40)),
  o3 42 29 true (.load 62 12 1 false false 41),
  o3 43 29 true (.bin .gtr (.s 37) (.s 42)),
  o1 44 (.pick (.s 29) (.s 43) (.k (.sc (.bool false)))),
  o1 22 (.mv false (.s 44))]
def g_bbr_ctl_cycle_4 : List (IStep2 RW) := [o1 45 (.mv false (.s 0)),
  o1 46 (.mv false (.s 0)),
  o1 47 (.mv false (.s 0)),
  o1 48 (.nil (.s 47)),
  o1 49 (.fld 0 (.s 48)),
  o1 50 (.fld 18 (.s 49)),
  o1 51 (.load 62 18 1 false false 50),
  o1 52 (.bin .add (.s 51) (.k (.sc (.int .i64 1)))),
  o1 53 (.bin .rem (.s 52) (.k (.sc (.int .i64 8)))),
  o1 54 (.fld 0 (.s 3)),
  o1 55 (.load 85 0 1 false false 54),
  o1 56 (.nil (.s 45)),
  o1 57 (.fld 0 (.s 56)),
  o1 58 (.fld 18 (.s 57)),
  o0 (.store 62 18 1 false 58 (.s 53)),
  o1 59 (.nil (.s 46)),
  o1 60 (.fld 0 (.s 59)),
  o1 61 (.fld 19 (.s 60)),
  o0 (.store 62 19 1 false 61 (.s 55))]
def i_bbr_ctl_cycle_0 : IC2 RW := .seq (.fin (.reg g_bbr_ctl_cycle_0) [1] []) (.blk 0 (.seq (.fin (.reg g_bbr_ctl_cycle_1) [5, 6, 7, 8, 9, 10, 11, 12, 13, 14, 15, 16, 17] []) (.cond (.s 4) (.fin (.reg g_bbr_ctl_cycle_2) [0, 3, 4, 18, 19, 20, 21] [(85, 8)]) (.seq (.fin (.reg g_bbr_ctl_cycle_3) [4, 23, 24, 25, 26, 27, 28, 29, 30, 31, 32, 33, 34, 35, 36, 37, 38, 39, 40, 41, 42, 43, 44] []) (.fin (.cond (.s 22) (.fin (.reg g_bbr_ctl_cycle_4) [0, 3, 22, 45, 46, 47, 48, 49, 50, 51, 52, 53, 54, 55, 56, 57, 58, 59, 60, 61] [(85, 8)]) (.skip)) [0, 3, 22] [(85, 8)])))))
def fn_bbr_ctl_cycle : IFn2 RW := ⟨28, 2, 62, 96, [(62, 22), (85, 8)], [(62, 22)], [], i_bbr_ctl_cycle_0⟩
def g_bbr_ctl_ask_2 : List (IStep2 RW) := [o1 16 (.mv false (.s 0)),
  o1 17 (.mv false (.s 0)),
  o1 18 (.mv false (.s 0)),
  o1 19 (.mv false (.s 0)),
  o1 20 (.nil (.s 19)),
  o1 21 (.fld 0 (.s 20)),
  o1 22 (.fld 2 (.s 21)),
  o1 23 (.load 122 2 1 false false 22),
  o1 24 (.nil (.s 16)),
  o1 25 (.fld 0 (.s 24)),
  o1 26 (.fld 10 (.s 25)),
  o0 (.store 122 10 1 false 26 (.k (.sc (.int .i64 4)))),
  o1 27 (.nil (.s 17)),
  o1 28 (.fld 0 (.s 27)),
  o1 29 (.fld 21 (.s 28)),
  o0 (.store 122 21 1 false 29 (.s 23)),
  o1 30 (.nil (.s 18)),
  o1 31 (.fld 0 (.s 30)),
  o1 32 (.fld 20 (.s 31)),
  o0 (.store 122 20 1 false 32 (.k (.sc (.int .i64 0))))]
def g_bbr_ctl_ask_3 : List (IStep2 RW) := [o1 34 (.mv false (.s 0)),
  o1 35 (.nil (.s 34)),
  o1 36 (.fld 0 (.s 35)),
  o1 37 (.fld 10 (.s 36)),
  o1 38 (.load 122 10 1 false false 37),
  o1 39 (.bin .neq (.s 38) (.k (.sc (.int .i64 4)))),
  o1 33 (.mv false (.s 39))]
def g_bbr_ctl_ask_4 : List (IStep2 RW) := [o1 41 (.mv false (.s 0)),
  o1 42 (.nil (.s 41)),
  o1 43 (.fld 0 (.s 42)),
  o1 44 (.fld 20 (.s 43)),
  o1 45 (.load 122 20 1 false false 44),
  o1 46 (.bin .eql (.s 45) (.k (.sc (.int .i64 0)))),
  o2 47 (.mv false (.s 46)),
  o3 48 47 true (.fld 7 (.s 4)),
  o3 49 47 true (.load 145 7 1 false false 48),
  o3 50 47 true (.mv false (.s 0)),
  o3 51 47 true (.nil (.s 50)),
  o3 52 47 true (.fld 0 (.s 51)),
  o3 53 47 true (.fld 1 (.s 52)),
  o3 54 47 true (.load 122 1 1 false false 53),
  o3 55 47 true (.bin .mul (.k (.sc (.int .i64 4))) (.s 54)),
  o3 56 47 true (.bin .leq (.s 49) (.s 55)),
  o1 57 (.pick (.s 47) (.s 56) (.k (.sc (.bool false)))),
  o1 40 (.mv false (.s 57))]
def g_bbr_ctl_ask_5 : List (IStep2 RW) := [o1 58 (.mv false (.s 0)),
  o1 59 (.fld 0 (.s 4)),
  o1 60 (.load 145 0 1 false false 59),
  o1 61 (.bin .add (.s 60) (.k (.sc (.int .i64 200000)))),
  o1 62 (.mnmx false [.k (.sc (.int .i64 1125899906842624)), .s 61]),
  o1 63 (.nil (.s 58)),
  o1 64 (.fld 0 (.s 63)),
  o1 65 (.fld 20 (.s 64)),
  o0 (.store 122 20 1 false 65 (.s 62))]
def g_bbr_ctl_ask_6 : List (IStep2 RW) := [o1 67 (.mv false (.s 0)),
  o1 68 (.nil (.s 67)),
  o1 69 (.fld 0 (.s 68)),
  o1 70 (.fld 20 (.s 69)),
  o1 71 (.load 122 20 1 false false 70),
  o1 72 (.bin .gtr (.s 71) (.k (.sc (.int .i64 0)))),
  o2 73 (.mv false (.s 72)),
  o3 74 73 true (.fld 0 (.s 4)),
  o3 75 73 true (.load 145 0 1 false false 74),
  o3 76 73 true (.mv false (.s 0)),
  o3 77 73 true (.nil (.s 76)),
  o3 78 73 true (.fld 0 (.s 77)),
  o3 79 73 true (.fld 20 (.s 78)),
  o3 80 73 true (.load 122 20 1 false false 79),
  o3 81 73 true (.bin .geq (.s 75) (.s 80)),
  o1 82 (.pick (.s 73) (.s 81) (.k (.sc (.bool false)))),
  o1 66 (.mv false (.s 82))]
def g_bbr_ctl_ask_7 : List (IStep2 RW) := [o1 83 (.mv false (.s 0)),
  o1 84 (.mv false (.s 0)),
  o1 85 (.mv false (.s 0)),
  o1 86 (.fld 0 (.s 4)),
  o1 87 (.load 145 0 1 false false 86),
  o1 88 (.mv false (.s 0)),
  o1 89 (.nil (.s 88)),
  o1 90 (.fld 0 (.s 89)),
  o1 91 (.fld 2 (.s 90)),
  o1 92 (.load 122 2 1 false false 91),
  o1 93 (.mv false (.s 0)),
  o1 94 (.nil (.s 93)),
  o1 95 (.fld 0 (.s 94)),
  o1 96 (.fld 21 (.s 95)),
  o1 97 (.load 122 21 1 false false 96),
  o1 98 (.mnmx true [.s 92, .s 97]),
  o1 99 (.nil (.s 83)),
  o1 100 (.fld 0 (.s 99)),
  o1 101 (.fld 13 (.s 100)),
  o0 (.store 122 13 1 false 101 (.s 87)),
  o1 102 (.nil (.s 84)),
  o1 103 (.fld 0 (.s 102)),
  o1 104 (.fld 2 (.s 103)),
  o0 (.store 122 2 1 false 104 (.s 98)),
  o1 105 (.nil (.s 85)),
  o1 106 (.fld 0 (.s 105)),
  o1 107 (.fld 20 (.s 106)),
  o0 (.store 122 20 1 false 107 (.k (.sc (.int .i64 0))))]
def g_bbr_ctl_ask_8 : List (IStep2 RW) := [o1 108 (.mv false (.s 0)),
  o1 109 (.nil (.s 108)),
  o1 110 (.fld 0 (.s 109)),
  o1 111 (.fld 17 (.s 110)),
  o1 112 (.load 122 17 1 false false 111),
  o1 113 (.bin .eql (.s 112) (.k (.sc (.int .i64 3))))]
def g_bbr_ctl_ask_9 : List (IStep2 RW) := [o1 114 (.mv false (.s 0)),
  o1 115 (.fld 0 (.s 4)),
  o1 116 (.load 145 0 1 false false 115),
  o1 117 (.call 1025 [(false, .s 114), (false, .s 116)] [(122, 22, 17)])]
def g_bbr_ctl_ask_10 : List (IStep2 RW) := [o1 118 (.mv false (.s 0)),
  o1 119 (.nil (.s 118)),
  o1 120 (.fld 0 (.s 119)),
  o1 121 (.fld 10 (.s 120)),
  o0 (.store 122 10 1 false 121 (.k (.sc (.int .i64 1))))]
def i_bbr_ctl_ask_0 : IC2 RW := .cond (.s 6) (.fin (.reg g_bbr_ctl_ask_2) [0, 4, 6, 16, 17, 18, 19, 20, 21, 22, 23, 24, 25, 26, 27, 28, 29, 30, 31, 32] [(145, 8)]) (.seq (.fin (.reg g_bbr_ctl_ask_3) [6, 34, 35, 36, 37, 38, 39] []) (.fin (.cond (.s 33) (.skip) (.seq (.fin (.reg g_bbr_ctl_ask_4) [33, 41, 42, 43, 44, 45, 46, 47, 48, 49, 50, 51, 52, 53, 54, 55, 56, 57] []) (.cond (.s 40) (.fin (.reg g_bbr_ctl_ask_5) [0, 4, 40, 58, 59, 60, 61, 62, 63, 64, 65] [(145, 8)]) (.seq (.fin (.reg g_bbr_ctl_ask_6) [40, 67, 68, 69, 70, 71, 72, 73, 74, 75, 76, 77, 78, 79, 80, 81, 82] []) (.fin (.cond (.s 66) (.seq (.fin (.reg g_bbr_ctl_ask_7) [66, 83, 84, 85, 86, 87, 88, 89, 90, 91, 92, 93, 94, 95, 96, 97, 98, 99, 100, 101, 102, 103, 104, 105, 106, 107] []) (.seq (.fin (.reg g_bbr_ctl_ask_8) [108, 109, 110, 111, 112] []) (.cond (.s 113) (.fin (.reg g_bbr_ctl_ask_9) [0, 4, 113, 114, 115, 116, 117] [(145, 8)]) (.fin (.reg g_bbr_ctl_ask_10) [0, 4, 113, 118, 119, 120, 121] [(145, 8)])))) (.skip)) [0, 4, 66] [(145, 8)]))))) [0, 4, 33] [(145, 8)]))
def g_bbr_ctl_ask_1 : List (IStep2 RW) := [o1 7 (.mv false (.s 2)),
  o2 8 (.mv false (.s 7)),
  o3 9 8 true (.mv false (.s 0)),
  o3 10 8 true (.nil (.s 9)),
  o3 11 8 true (.fld 0 (.s 10)),
  o3 12 8 true (.fld 10 (.s 11)),
  o3 13 8 true (.load 122 10 1 false false 12),
  o3 14 8 true (.bin .neq (.s 13) (.k (.sc (.int .i64 4)))),
  o1 15 (.pick (.s 8) (.s 14) (.k (.sc (.bool false)))),
  o1 6 (.mv false (.s 15))]
def i_bbr_ctl_ask_1 : IC2 RW := .seq (.fin (.reg g_bbr_ctl_ask_1) [2, 7, 8, 9, 10, 11, 12, 13, 14, 15] []) i_bbr_ctl_ask_0
def i_bbr_ctl_ask_2 : IC2 RW := .blk 0 i_bbr_ctl_ask_1
def g_bbr_ctl_ask_0 : List (IStep2 RW) := [o1 4 (.box 145 8 false (.s 1))]
def i_bbr_ctl_ask_3 : IC2 RW := .seq (.fin (.reg g_bbr_ctl_ask_0) [1] []) i_bbr_ctl_ask_2
def fn_bbr_ctl_ask : IFn2 RW := ⟨29, 3, 122, 160, [(122, 22), (145, 8)], [(122, 22)], [], i_bbr_ctl_ask_3⟩
def g_seq_Clamp_0 : List (IStep2 RW) := [o1 6 (.mv false (.k (.sc (.int .i64 0))))]
def g_seq_Clamp_1 : List (IStep2 RW) := [o1 7 (.mv false (.s 1)),
  o1 8 (.mv false (.s 0)),
  o1 9 (.mv false (.s 2)),
  o1 10 (.mnmx false [.s 8, .s 9]),
  o1 11 (.mnmx true [.s 7, .s 10]),
  o1 6 (.mv false (.s 11))]
def i_seq_Clamp_0 : IC2 RW := .seq (.fin (.reg g_seq_Clamp_0) [6] []) (.seq (.fin (.reg g_seq_Clamp_1) [0, 1, 2, 7, 8, 9, 10, 11] []) (.ret))
def fn_seq_Clamp : IFn2 RW := ⟨39, 3, 12, 16, [], [], [.slot 6], i_seq_Clamp_0⟩
def g_bbr_ctl_window_9 : List (IStep2 RW) := [o1 62 (.mv false (.s 0)),
  o1 63 (.mv false (.s 5)),
  o1 64 (.mv false (.s 0)),
  o1 65 (.nil (.s 64)),
  o1 66 (.fld 0 (.s 65)),
  o1 67 (.fld 1 (.s 66)),
  o1 68 (.load 73 1 1 false false 67),
  o1 69 (.call 39 [(false, .s 63), (false, .s 68), (false, .k (.sc (.int .i64 1073741824)))] []),
  o1 70 (.nil (.s 62)),
  o1 71 (.fld 0 (.s 70)),
  o1 72 (.fld 2 (.s 71)),
  o0 (.store 73 2 1 false 72 (.s 69))]
def i_bbr_ctl_window_0 : IC2 RW := .fin (.reg g_bbr_ctl_window_9) [0, 5, 62, 63, 64, 65, 66, 67, 68, 69, 70, 71, 72] []
def g_bbr_ctl_window_3 : List (IStep2 RW) := [o1 22 (.mv false (.s 0)),
  o1 23 (.nil (.s 22)),
  o1 24 (.fld 0 (.s 23)),
  o1 25 (.fld 10 (.s 24)),
  o1 26 (.load 73 10 1 false false 25),
  o1 27 (.bin .eql (.s 26) (.k (.sc (.int .i64 4)))),
  o1 21 (.mv false (.s 27))]
def g_bbr_ctl_window_4 : List (IStep2 RW) := [o1 28 (.mv false (.s 5)),
  o1 29 (.mv false (.s 0)),
  o1 30 (.nil (.s 29)),
  o1 31 (.fld 0 (.s 30)),
  o1 32 (.fld 1 (.s 31)),
  o1 33 (.load 73 1 1 false false 32),
  o1 34 (.bin .mul (.k (.sc (.int .i64 4))) (.s 33)),
  o1 35 (.mnmx false [.s 28, .s 34]),
  o1 5 (.mv false (.s 35))]
def g_bbr_ctl_window_5 : List (IStep2 RW) := [o1 37 (.mv false (.s 0)),
  o1 38 (.nil (.s 37)),
  o1 39 (.fld 0 (.s 38)),
  o1 40 (.fld 17 (.s 39)),
  o1 41 (.load 73 17 1 false false 40),
  o1 42 (.bin .eql (.s 41) (.k (.sc (.int .i64 3)))),
  o1 36 (.mv false (.s 42))]
def g_bbr_ctl_window_6 : List (IStep2 RW) := [o1 43 (.mv false (.s 4)),
  o1 44 (.mv false (.s 5)),
  o1 45 (.fld 1 (.s 3)),
  o1 46 (.load 96 1 1 false false 45),
  o1 47 (.bin .add (.s 44) (.s 46)),
  o1 48 (.mnmx false [.s 43, .s 47]),
  o1 5 (.mv false (.s 48))]
def g_bbr_ctl_window_7 : List (IStep2 RW) := [o1 50 (.mv false (.s 5)),
  o1 51 (.mv false (.s 4)),
  o1 52 (.bin .lss (.s 50) (.s 51)),
  o2 53 (.mv false (.s 52)),
  o3 54 53 false (.mv false (.s 0)),
  o3 55 53 false (.ro 1013 [(false, .s 54)] [(73, 22, 15)]),
  o3 56 53 false (.bin .eql (.s 55) (.k (.sc (.int .i64 0)))),
  o1 57 (.pick (.s 53) (.k (.sc (.bool true))) (.s 56)),
  o1 49 (.mv false (.s 57))]
def g_bbr_ctl_window_8 : List (IStep2 RW) := [o1 58 (.mv false (.s 5)),
  o1 59 (.fld 1 (.s 3)),
  o1 60 (.load 96 1 1 false false 59),
  o1 61 (.bin .add (.s 58) (.s 60)),
  o1 5 (.mv false (.s 61))]
def i_bbr_ctl_window_1 : IC2 RW := .seq (.blk 0 (.seq (.fin (.reg g_bbr_ctl_window_3) [22, 23, 24, 25, 26, 27] []) (.cond (.s 21) (.fin (.reg g_bbr_ctl_window_4) [3, 4, 21, 28, 29, 30, 31, 32, 33, 34, 35] [(96, 8)]) (.seq (.fin (.reg g_bbr_ctl_window_5) [21, 37, 38, 39, 40, 41, 42] []) (.cond (.s 36) (.fin (.reg g_bbr_ctl_window_6) [3, 4, 36, 43, 44, 45, 46, 47, 48] [(96, 8)]) (.seq (.fin (.reg g_bbr_ctl_window_7) [4, 36, 50, 51, 52, 53, 54, 55, 56, 57] []) (.fin (.cond (.s 49) (.fin (.reg g_bbr_ctl_window_8) [3, 49, 58, 59, 60, 61] [(96, 8)]) (.skip)) [3, 49] [(96, 8)]))))))) i_bbr_ctl_window_0
def g_bbr_ctl_window_0 : List (IStep2 RW) := [o1 3 (.box 96 8 false (.s 1))]
def g_bbr_ctl_window_1 : List (IStep2 RW) := [o1 6 (.mv false (.s 0)),
  o1 7 (.ro 1019 [(false, .s 6)] [(73, 22, 18)]),
  o1 8 (.bin .mul (.k (.sc (.int .i64 2))) (.s 7)),
  o1 9 (.mv false (.s 0)),
  o1 10 (.nil (.s 9)),
  o1 11 (.fld 0 (.s 10)),
  o1 12 (.fld 1 (.s 11)),
  o1 13 (.load 73 1 1 false false 12),
  o1 14 (.bin .mul (.k (.sc (.int .i64 4))) (.s 13)),
  o1 15 (.mnmx true [.s 8, .s 14]),
  o1 4 (.mv false (.s 15))]
def g_bbr_ctl_window_2 : List (IStep2 RW) := [o1 16 (.mv false (.s 0)),
  o1 17 (.nil (.s 16)),
  o1 18 (.fld 0 (.s 17)),
  o1 19 (.fld 2 (.s 18)),
  o1 20 (.load 73 2 1 false false 19),
  o1 5 (.mv false (.s 20))]
def i_bbr_ctl_window_2 : IC2 RW := .seq (.fin (.reg g_bbr_ctl_window_0) [1] []) (.seq (.fin (.reg g_bbr_ctl_window_1) [6, 7, 8, 9, 10, 11, 12, 13, 14, 15] []) (.seq (.fin (.reg g_bbr_ctl_window_2) [16, 17, 18, 19, 20] []) i_bbr_ctl_window_1))
def fn_bbr_ctl_window : IFn2 RW := ⟨30, 2, 73, 112, [(73, 22), (96, 8)], [(73, 22)], [], i_bbr_ctl_window_2⟩
def g_bbr_Acked_12 : List (IStep2 RW) := [o1 70 (.mv false (.s 7)),
  o1 71 (.load 107 0 8 true false 3),
  o1 72 (.call 1018 [(false, .s 70), (false, .s 71)] [(139, 22, 62)])]
def g_bbr_Acked_13 : List (IStep2 RW) := [o1 73 (.mv false (.s 7)),
  o1 74 (.load 107 0 8 true false 3),
  o1 75 (.mv false (.s 9)),
  o1 76 (.call 1026 [(false, .s 73), (false, .s 74), (false, .s 75)] [(139, 22, 122)])]
def g_bbr_Acked_14 : List (IStep2 RW) := [o1 77 (.mv false (.s 7)),
  o1 78 (.load 107 0 8 true false 3),
  o1 79 (.call 1027 [(false, .s 77), (false, .s 78)] [(139, 22, 73)])]
def g_bbr_Acked_15 : List (IStep2 RW) := [o1 80 (.mv false (.s 7)),
  o1 81 (.nil (.s 80)),
  o1 82 (.fld 0 (.s 81)),
  o1 83 (.load 139 0 22 true true 82),
  o0 (.store 116 0 22 true 4 (.s 83)),
  o1 5 (.mv false (.k (.sc (.int .i64 0))))]
def i_bbr_Acked_0 : IC2 RW := .seq (.fin (.reg g_bbr_Acked_12) [70, 71, 72] []) (.seq (.fin (.reg g_bbr_Acked_13) [9, 73, 74, 75, 76] []) (.seq (.fin (.reg g_bbr_Acked_14) [3, 77, 78, 79] [(107, 8)]) (.seq (.fin (.reg g_bbr_Acked_15) [7, 80, 81, 82, 83] [(139, 22)]) (.ret))))
def g_bbr_Acked_8 : List (IStep2 RW) := [o1 48 (.mv false (.s 7)),
  o1 49 (.load 107 0 8 true false 3),
  o1 50 (.call 1012 [(false, .s 48), (false, .s 49)] [(139, 22, 74)])]
def g_bbr_Acked_9 : List (IStep2 RW) := [o1 51 (.mv false (.s 7)),
  o1 52 (.load 107 0 8 true false 3),
  o1 53 (.call 1016 [(false, .s 51), (false, .s 52)] [(139, 22, 60)]),
  o1 9 (.mv false (.s 53))]
def g_bbr_Acked_10 : List (IStep2 RW) := [o1 54 (.mv false (.s 8)),
  o2 55 (.mv false (.s 54)),
  o3 56 55 true (.mv false (.s 7)),
  o3 57 55 true (.nil (.s 56)),
  o3 58 55 true (.fld 0 (.s 57)),
  o3 59 55 true (.fld 10 (.s 58)),
  o3 60 55 true (.load 139 10 1 false false 59),
  o3 61 55 true (.bin .eql (.s 60) (.k (.sc (.int .i64 1)))),
  o1 62 (.pick (.s 55) (.s 61) (.k (.sc (.bool false)))),
  o2 63 (.mv false (.s 62)),
  o3 64 63 true (.fld 4 (.s 3)),
  o3 65 63 true (.load 107 4 1 false false 64),
  o3 66 63 true (.un .not (.s 65)),
  o1 67 (.pick (.s 63) (.s 66) (.k (.sc (.bool false))))]
def g_bbr_Acked_11 : List (IStep2 RW) := [o1 68 (.mv false (.s 7)),
  o1 69 (.call 1017 [(false, .s 68)] [(139, 22, 48)])]
def i_bbr_Acked_1 : IC2 RW := .seq (.fin (.reg g_bbr_Acked_8) [48, 49, 50] []) (.seq (.fin (.reg g_bbr_Acked_9) [51, 52, 53] []) (.seq (.seq (.fin (.reg g_bbr_Acked_10) [8, 54, 55, 56, 57, 58, 59, 60, 61, 62, 63, 64, 65, 66] []) (.fin (.cond (.s 67) (.fin (.reg g_bbr_Acked_11) [67, 68, 69] []) (.skip)) [67] [])) i_bbr_Acked_0))
def g_bbr_Acked_0 : List (IStep2 RW) := [o1 2 (.box 84 22 false (.s 0)),
  o1 3 (.box 107 8 false (.s 1)),
  o1 4 (.alloc 116 [.sc (.int .i64 0), .sc (.int .i64 0), .sc (.int .i64 0), .sc (.int .i64 0), .sc (.int .i64 0), .sc (.int .i64 0), .sc (.int .i64 0), .sc (.int .i64 0), .sc (.int .i64 0), .sc (.int .i64 0), .sc (.int .i64 0), .row false (.rEntry []), .sc (.int .i64 0), .sc (.int .i64 0), .sc (.int .i64 0), .sc (.int .i64 0), .sc (.int .i64 0), .sc (.int .i64 0), .sc (.int .i64 0), .sc (.int .i64 0), .sc (.int .i64 0), .sc (.int .i64 0)]),
  o1 5 (.mv false (.k (.sc (.int .i64 0))))]
def g_bbr_Acked_1 : List (IStep2 RW) := [o1 10 (.load 84 0 22 true false 2),
  o1 11 (.call 12 [(false, .s 10)] []),
  o1 6 (.mv false (.s 11))]
def g_bbr_Acked_2 : List (IStep2 RW) := [o1 12 (.mv false (.s 6)),
  o1 13 (.bin .neq (.s 12) (.k (.sc (.int .i64 0))))]
def g_bbr_Acked_3 : List (IStep2 RW) := [o1 14 (.build [.sc (.int .i64 0), .sc (.int .i64 0), .sc (.int .i64 0), .sc (.int .i64 0), .sc (.int .i64 0), .sc (.int .i64 0), .sc (.int .i64 0), .sc (.int .i64 0), .sc (.int .i64 0), .sc (.int .i64 0), .sc (.int .i64 0), .row false (.rEntry []), .sc (.int .i64 0), .sc (.int .i64 0), .sc (.int .i64 0), .sc (.int .i64 0), .sc (.int .i64 0), .sc (.int .i64 0), .sc (.int .i64 0), .sc (.int .i64 0), .sc (.int .i64 0), .sc (.int .i64 0)] []),
  o1 15 (.mv false (.s 6)),
  o0 (.store 116 0 22 true 4 (.s 14)),
  o1 5 (.mv false (.s 15))]
def g_bbr_Acked_4 : List (IStep2 RW) := [o1 16 (.fld 0 (.s 3)),
  o1 17 (.load 107 0 1 false false 16),
  o1 18 (.fld 5 (.s 3)),
  o1 19 (.load 107 5 1 false false 18),
  o1 20 (.fld 6 (.s 3)),
  o1 21 (.load 107 6 1 false false 20),
  o1 22 (.fld 2 (.s 3)),
  o1 23 (.load 107 2 1 false false 22),
  o1 24 (.bslice 3 4 [(0, 1, .s 17), (1, 1, .s 19), (2, 1, .s 21), (3, 1, .s 23)]),
  o1 25 (.call 17 [(false, .k (.sc (.int .i64 1125899906842624))), (false, .s 24)] []),
  o1 26 (.un .not (.s 25)),
  o2 27 (.mv false (.s 26)),
  o3 28 27 false (.fld 1 (.s 3)),
  o3 29 27 false (.load 107 1 1 false false 28),
  o3 30 27 false (.fld 7 (.s 3)),
  o3 31 27 false (.load 107 7 1 false false 30),
  o3 32 27 false (.bslice 3 2 [(0, 1, .s 29), (1, 1, .s 31)]),
  o3 33 27 false (.call 17 [(false, .k (.sc (.int .i64 1073741824))), (false, .s 32)] []),
  o3 34 27 false (.un .not (.s 33)),
  o1 35 (.pick (.s 27) (.k (.sc (.bool true))) (.s 34)),
  o2 36 (.mv false (.s 35)),
  o3 37 36 false (.fld 3 (.s 3)),
  o3 38 36 false (.load 107 3 1 false false 37),
  o3 39 36 false (.bin .lss (.s 38) (.k (.sc (.int .i64 0)))),
  o1 40 (.pick (.s 36) (.k (.sc (.bool true))) (.s 39))]
def g_bbr_Acked_5 : List (IStep2 RW) := [o1 41 (.build [.sc (.int .i64 0), .sc (.int .i64 0), .sc (.int .i64 0), .sc (.int .i64 0), .sc (.int .i64 0), .sc (.int .i64 0), .sc (.int .i64 0), .sc (.int .i64 0), .sc (.int .i64 0), .sc (.int .i64 0), .sc (.int .i64 0), .row false (.rEntry []), .sc (.int .i64 0), .sc (.int .i64 0), .sc (.int .i64 0), .sc (.int .i64 0), .sc (.int .i64 0), .sc (.int .i64 0), .sc (.int .i64 0), .sc (.int .i64 0), .sc (.int .i64 0), .sc (.int .i64 0)] []),
  o0 (.store 116 0 22 true 4 (.s 41)),
  o1 5 (.mv false (.k (.sc (.int .i64 2))))]
def g_bbr_Acked_6 : List (IStep2 RW) := [o1 42 (.load 84 0 22 true false 2),
  o1 43 (.build [.sc (.int .i64 0), .sc (.int .i64 0), .sc (.int .i64 0), .sc (.int .i64 0), .sc (.int .i64 0), .sc (.int .i64 0), .sc (.int .i64 0), .sc (.int .i64 0), .sc (.int .i64 0), .sc (.int .i64 0), .sc (.int .i64 0), .row false (.rEntry []), .sc (.int .i64 0), .sc (.int .i64 0), .sc (.int .i64 0), .sc (.int .i64 0), .sc (.int .i64 0), .sc (.int .i64 0), .sc (.int .i64 0), .sc (.int .i64 0), .sc (.int .i64 0), .sc (.int .i64 0)] [(0, 22, .s 42)]),
  o1 44 (.box 139 22 true (.s 43)),
  o1 7 (.mv false (.s 44))]
def g_bbr_Acked_7 : List (IStep2 RW) := [o1 45 (.mv false (.s 7)),
  o1 46 (.load 107 0 8 true false 3),
  o1 47 (.call 1011 [(false, .s 45), (false, .s 46)] [(139, 22, 30)]),
  o1 8 (.mv false (.s 47))]
def i_bbr_Acked_2 : IC2 RW := .seq (.fin (.reg g_bbr_Acked_0) [0, 1, 5] []) (.seq (.seq (.fin (.reg g_bbr_Acked_1) [10, 11] []) (.seq (.fin (.reg g_bbr_Acked_2) [12] []) (.fin (.cond (.s 13) (.seq (.fin (.reg g_bbr_Acked_3) [2, 3, 6, 13, 14, 15] [(84, 22), (107, 8)]) (.ret)) (.skip)) [6, 13] []))) (.seq (.seq (.fin (.reg g_bbr_Acked_4) [16, 17, 18, 19, 20, 21, 22, 23, 24, 25, 26, 27, 28, 29, 30, 31, 32, 33, 34, 35, 36, 37, 38, 39] []) (.fin (.cond (.s 40) (.seq (.fin (.reg g_bbr_Acked_5) [2, 3, 40, 41] [(84, 22), (107, 8)]) (.ret)) (.skip)) [40] [])) (.seq (.fin (.reg g_bbr_Acked_6) [2, 42, 43, 44] [(84, 22)]) (.seq (.fin (.reg g_bbr_Acked_7) [45, 46, 47] []) i_bbr_Acked_1))))
def fn_bbr_Acked : IFn2 RW := ⟨14, 2, 84, 176, [(84, 22), (107, 8), (116, 22), (139, 22)], [], [.cell 4 116 22 true, .slot 5], i_bbr_Acked_2⟩
def g_bbr_Timeout_0 : List (IStep2 RW) := [o1 2 (.box 24 22 false (.s 0)),
  o1 4 (.alloc 47 [.sc (.int .i64 0), .sc (.int .i64 0), .sc (.int .i64 0), .sc (.int .i64 0), .sc (.int .i64 0), .sc (.int .i64 0), .sc (.int .i64 0), .sc (.int .i64 0), .sc (.int .i64 0), .sc (.int .i64 0), .sc (.int .i64 0), .row false (.rEntry []), .sc (.int .i64 0), .sc (.int .i64 0), .sc (.int .i64 0), .sc (.int .i64 0), .sc (.int .i64 0), .sc (.int .i64 0), .sc (.int .i64 0), .sc (.int .i64 0), .sc (.int .i64 0), .sc (.int .i64 0)]),
  o1 5 (.mv false (.k (.sc (.int .i64 0))))]
def g_bbr_Timeout_1 : List (IStep2 RW) := [o1 7 (.load 24 0 22 true false 2),
  o1 8 (.call 12 [(false, .s 7)] []),
  o1 9 (.bin .neq (.s 8) (.k (.sc (.int .i64 0)))),
  o1 6 (.mv false (.s 9))]
def g_bbr_Timeout_2 : List (IStep2 RW) := [o1 10 (.build [.sc (.int .i64 0), .sc (.int .i64 0), .sc (.int .i64 0), .sc (.int .i64 0), .sc (.int .i64 0), .sc (.int .i64 0), .sc (.int .i64 0), .sc (.int .i64 0), .sc (.int .i64 0), .sc (.int .i64 0), .sc (.int .i64 0), .row false (.rEntry []), .sc (.int .i64 0), .sc (.int .i64 0), .sc (.int .i64 0), .sc (.int .i64 0), .sc (.int .i64 0), .sc (.int .i64 0), .sc (.int .i64 0), .sc (.int .i64 0), .sc (.int .i64 0), .sc (.int .i64 0)] []),
  o0 (.store 47 0 22 false 4 (.s 10)),
  o1 5 (.mv false (.k (.sc (.int .i64 230))))]
def g_bbr_Timeout_3 : List (IStep2 RW) := [o1 12 (.mv false (.s 1)),
  o1 13 (.bslice 3 1 [(0, 1, .s 12)]),
  o1 14 (.call 17 [(false, .k (.sc (.int .i64 1073741824))), (false, .s 13)] []),
  o1 15 (.un .not (.s 14)),
  o1 11 (.mv false (.s 15))]
def g_bbr_Timeout_4 : List (IStep2 RW) := [o1 16 (.build [.sc (.int .i64 0), .sc (.int .i64 0), .sc (.int .i64 0), .sc (.int .i64 0), .sc (.int .i64 0), .sc (.int .i64 0), .sc (.int .i64 0), .sc (.int .i64 0), .sc (.int .i64 0), .sc (.int .i64 0), .sc (.int .i64 0), .row false (.rEntry []), .sc (.int .i64 0), .sc (.int .i64 0), .sc (.int .i64 0), .sc (.int .i64 0), .sc (.int .i64 0), .sc (.int .i64 0), .sc (.int .i64 0), .sc (.int .i64 0), .sc (.int .i64 0), .sc (.int .i64 0)] []),
  o0 (.store 47 0 22 false 4 (.s 16)),
  o1 5 (.mv false (.k (.sc (.int .i64 2))))]
def g_bbr_Timeout_5 : List (IStep2 RW) := [o1 17 (.fld 2 (.s 2)),
  o1 18 (.load 24 2 1 false false 17),
  o1 19 (.fld 1 (.s 2)),
  o1 20 (.load 24 1 1 false false 19),
  o1 21 (.fld 21 (.s 2)),
  o0 (.store 24 21 1 false 21 (.s 18)),
  o1 22 (.fld 2 (.s 2)),
  o0 (.store 24 2 1 false 22 (.s 20))]
def g_bbr_Timeout_6 : List (IStep2 RW) := [o1 23 (.load 24 0 22 true false 2),
  o0 (.store 47 0 22 false 4 (.s 23)),
  o1 5 (.mv false (.k (.sc (.int .i64 0))))]
def i_bbr_Timeout_0 : IC2 RW := .seq (.fin (.reg g_bbr_Timeout_0) [0, 5] []) (.seq (.blk 0 (.seq (.fin (.reg g_bbr_Timeout_1) [7, 8, 9] []) (.cond (.s 6) (.seq (.fin (.reg g_bbr_Timeout_2) [1, 2, 6, 10] [(24, 22)]) (.ret)) (.seq (.fin (.reg g_bbr_Timeout_3) [1, 6, 12, 13, 14, 15] []) (.fin (.cond (.s 11) (.seq (.fin (.reg g_bbr_Timeout_4) [2, 11, 16] [(24, 22)]) (.ret)) (.skip)) [11] []))))) (.seq (.fin (.reg g_bbr_Timeout_5) [17, 18, 19, 20, 21, 22] []) (.seq (.fin (.reg g_bbr_Timeout_6) [2, 23] [(24, 22)]) (.ret))))
def fn_bbr_Timeout : IFn2 RW := ⟨7, 2, 24, 80, [(24, 22), (47, 22)], [], [.cell 4 47 22 true, .slot 5], i_bbr_Timeout_0⟩
def g_bbr_Bandwidth_0 : List (IStep2 RW) := [o1 1 (.box 10 22 false (.s 0)),
  o1 2 (.mv false (.k (.sc (.int .i64 0))))]
def g_bbr_Bandwidth_1 : List (IStep2 RW) := [o1 3 (.load 10 0 22 true false 1),
  o1 4 (.call 12 [(false, .s 3)] []),
  o1 5 (.bin .neq (.s 4) (.k (.sc (.int .i64 0))))]
def g_bbr_Bandwidth_2 : List (IStep2 RW) := [o1 2 (.mv false (.k (.sc (.int .i64 0))))]
def g_bbr_Bandwidth_3 : List (IStep2 RW) := [o1 6 (.load 10 0 22 true false 1),
  o1 7 (.build [.sc (.int .i64 0), .sc (.int .i64 0), .sc (.int .i64 0), .sc (.int .i64 0), .sc (.int .i64 0), .sc (.int .i64 0), .sc (.int .i64 0), .sc (.int .i64 0), .sc (.int .i64 0), .sc (.int .i64 0), .sc (.int .i64 0), .row false (.rEntry []), .sc (.int .i64 0), .sc (.int .i64 0), .sc (.int .i64 0), .sc (.int .i64 0), .sc (.int .i64 0), .sc (.int .i64 0), .sc (.int .i64 0), .sc (.int .i64 0), .sc (.int .i64 0), .sc (.int .i64 0)] [(0, 22, .s 6)]),
  o1 8 (.box 33 22 false (.s 7)),
  o1 9 (.ro 1013 [(false, .s 8)] [(33, 22, 15)]),
  o1 2 (.mv false (.s 9))]
def i_bbr_Bandwidth_0 : IC2 RW := .seq (.fin (.reg g_bbr_Bandwidth_0) [0, 2] []) (.seq (.seq (.fin (.reg g_bbr_Bandwidth_1) [3, 4] []) (.fin (.cond (.s 5) (.seq (.fin (.reg g_bbr_Bandwidth_2) [1, 5] [(10, 22)]) (.ret)) (.skip)) [5] [])) (.seq (.fin (.reg g_bbr_Bandwidth_3) [1, 6, 7, 8, 9] [(10, 22), (33, 22)]) (.ret)))
def fn_bbr_Bandwidth : IFn2 RW := ⟨15, 1, 10, 64, [(10, 22), (33, 22)], [], [.slot 2], i_bbr_Bandwidth_0⟩
def g_bbr_Product_0 : List (IStep2 RW) := [o1 1 (.box 10 22 false (.s 0)),
  o1 2 (.mv false (.k (.sc (.int .i64 0))))]
def g_bbr_Product_1 : List (IStep2 RW) := [o1 3 (.load 10 0 22 true false 1),
  o1 4 (.call 12 [(false, .s 3)] []),
  o1 5 (.bin .neq (.s 4) (.k (.sc (.int .i64 0))))]
def g_bbr_Product_2 : List (IStep2 RW) := [o1 2 (.mv false (.k (.sc (.int .i64 0))))]
def g_bbr_Product_3 : List (IStep2 RW) := [o1 6 (.load 10 0 22 true false 1),
  o1 7 (.build [.sc (.int .i64 0), .sc (.int .i64 0), .sc (.int .i64 0), .sc (.int .i64 0), .sc (.int .i64 0), .sc (.int .i64 0), .sc (.int .i64 0), .sc (.int .i64 0), .sc (.int .i64 0), .sc (.int .i64 0), .sc (.int .i64 0), .row false (.rEntry []), .sc (.int .i64 0), .sc (.int .i64 0), .sc (.int .i64 0), .sc (.int .i64 0), .sc (.int .i64 0), .sc (.int .i64 0), .sc (.int .i64 0), .sc (.int .i64 0), .sc (.int .i64 0), .sc (.int .i64 0)] [(0, 22, .s 6)]),
  o1 8 (.box 33 22 false (.s 7)),
  o1 9 (.ro 1019 [(false, .s 8)] [(33, 22, 18)]),
  o1 2 (.mv false (.s 9))]
def i_bbr_Product_0 : IC2 RW := .seq (.fin (.reg g_bbr_Product_0) [0, 2] []) (.seq (.seq (.fin (.reg g_bbr_Product_1) [3, 4] []) (.fin (.cond (.s 5) (.seq (.fin (.reg g_bbr_Product_2) [1, 5] [(10, 22)]) (.ret)) (.skip)) [5] [])) (.seq (.fin (.reg g_bbr_Product_3) [1, 6, 7, 8, 9] [(10, 22), (33, 22)]) (.ret)))
def fn_bbr_Product : IFn2 RW := ⟨16, 1, 10, 64, [(10, 22), (33, 22)], [], [.slot 2], i_bbr_Product_0⟩
def g_bbr_Gain_0 : List (IStep2 RW) := [o1 1 (.box 32 22 false (.s 0)),
  o1 2 (.mv false (.k (.sc (.int .i64 0))))]
def g_bbr_Gain_1 : List (IStep2 RW) := [o1 3 (.load 32 0 22 true false 1),
  o1 4 (.call 12 [(false, .s 3)] []),
  o1 5 (.bin .neq (.s 4) (.k (.sc (.int .i64 0))))]
def g_bbr_Gain_2 : List (IStep2 RW) := [o1 2 (.mv false (.k (.sc (.int .i64 0))))]
def g_bbr_Gain_3 : List (IStep2 RW) := [o1 7 (.fld 10 (.s 1)),
  o1 8 (.load 32 10 1 false false 7),
  o1 9 (.bin .eql (.s 8) (.k (.sc (.int .i64 1)))),
  o1 6 (.mv false (.s 9))]
def g_bbr_Gain_4 : List (IStep2 RW) := [o1 2 (.mv false (.k (.sc (.int .i64 289))))]
def g_bbr_Gain_5 : List (IStep2 RW) := [o1 11 (.fld 10 (.s 1)),
  o1 12 (.load 32 10 1 false false 11),
  o1 13 (.bin .eql (.s 12) (.k (.sc (.int .i64 2)))),
  o1 10 (.mv false (.s 13))]
def g_bbr_Gain_6 : List (IStep2 RW) := [o1 2 (.mv false (.k (.sc (.int .i64 35))))]
def g_bbr_Gain_7 : List (IStep2 RW) := [o1 15 (.fld 10 (.s 1)),
  o1 16 (.load 32 10 1 false false 15),
  o1 17 (.bin .eql (.s 16) (.k (.sc (.int .i64 3)))),
  o2 18 (.mv false (.s 17)),
  o3 19 18 true (.fld 18 (.s 1)),
  o3 20 18 true (.load 32 18 1 false false 19),
  o3 21 18 true (.bin .eql (.s 20) (.k (.sc (.int .i64 0)))),
  o1 22 (.pick (.s 18) (.s 21) (.k (.sc (.bool false)))),
  o1 14 (.mv false (.s 22))]
def g_bbr_Gain_8 : List (IStep2 RW) := [o1 2 (.mv false (.k (.sc (.int .i64 125))))]
def g_bbr_Gain_9 : List (IStep2 RW) := [o1 24 (.fld 10 (.s 1)),
  o1 25 (.load 32 10 1 false false 24),
  o1 26 (.bin .eql (.s 25) (.k (.sc (.int .i64 3)))),
  o2 27 (.mv false (.s 26)),
  o3 28 27 true (.fld 18 (.s 1)),
  o3 29 27 true (.load 32 18 1 false false 28),
  o3 30 27 true (.bin .eql (.s 29) (.k (.sc (.int .i64 1)))),
  o1 31 (.pick (.s 27) (.s 30) (.k (.sc (.bool false)))),
  o1 23 (.mv false (.s 31))]
def g_bbr_Gain_10 : List (IStep2 RW) := [o1 2 (.mv false (.k (.sc (.int .i64 75))))]
def g_bbr_Gain_11 : List (IStep2 RW) := [o1 2 (.mv false (.k (.sc (.int .i64 100))))]
def i_bbr_Gain_0 : IC2 RW := .seq (.fin (.reg g_bbr_Gain_0) [0, 2] []) (.seq (.seq (.fin (.reg g_bbr_Gain_1) [3, 4] []) (.fin (.cond (.s 5) (.seq (.fin (.reg g_bbr_Gain_2) [1, 5] [(32, 22)]) (.ret)) (.skip)) [5] [])) (.seq (.blk 0 (.seq (.fin (.reg g_bbr_Gain_3) [7, 8, 9] []) (.cond (.s 6) (.seq (.fin (.reg g_bbr_Gain_4) [1, 6] [(32, 22)]) (.ret)) (.seq (.fin (.reg g_bbr_Gain_5) [6, 11, 12, 13] []) (.cond (.s 10) (.seq (.fin (.reg g_bbr_Gain_6) [1, 10] [(32, 22)]) (.ret)) (.seq (.fin (.reg g_bbr_Gain_7) [10, 15, 16, 17, 18, 19, 20, 21, 22] []) (.cond (.s 14) (.seq (.fin (.reg g_bbr_Gain_8) [1, 14] [(32, 22)]) (.ret)) (.seq (.fin (.reg g_bbr_Gain_9) [1, 14, 24, 25, 26, 27, 28, 29, 30, 31] [(32, 22)]) (.fin (.cond (.s 23) (.seq (.fin (.reg g_bbr_Gain_10) [23] []) (.ret)) (.skip)) [23] []))))))))) (.seq (.reg g_bbr_Gain_11) (.ret))))
def fn_bbr_Gain : IFn2 RW := ⟨23, 1, 32, 64, [(32, 22)], [], [.slot 2], i_bbr_Gain_0⟩
def g_law18_heads_5 : List (IStep2 RW) := [o1 31 (.build [.sc (.int .i64 0), .sc (.int .i64 0), .sc (.int .i64 0), .sc (.int .i64 0), .sc (.int .i64 0), .sc (.int .i64 0), .sc (.int .i64 0), .sc (.int .i64 0), .sc (.int .i64 0), .sc (.int .i64 0), .sc (.int .i64 0), .row false (.rEntry []), .sc (.int .i64 0), .sc (.int .i64 0), .sc (.int .i64 0), .sc (.int .i64 0), .sc (.int .i64 0), .sc (.int .i64 0), .sc (.int .i64 0), .sc (.int .i64 0), .sc (.int .i64 0), .sc (.int .i64 0)] []),
  o1 32 (.build [.sc (.int .i64 0), .sc (.int .i64 0), .sc (.int .i64 0), .sc (.int .i64 0), .sc (.bool false), .sc (.int .i64 0), .sc (.int .i64 0), .sc (.int .i64 0)] []),
  o1 33 (.call 14 [(false, .s 31), (false, .s 32)] []),
  o1 30 (.mv false (.s 33)),
  o1 34 (.ext false 0 (.s 30)),
  o1 35 (.ext false 1 (.s 30)),
  o1 9 (.alloc 171 [.sc (.int .i64 0), .sc (.int .i64 0), .sc (.int .i64 0), .sc (.int .i64 0), .sc (.int .i64 0), .sc (.int .i64 0), .sc (.int .i64 0), .sc (.int .i64 0), .sc (.int .i64 0), .sc (.int .i64 0), .sc (.int .i64 0), .row false (.rEntry []), .sc (.int .i64 0), .sc (.int .i64 0), .sc (.int .i64 0), .sc (.int .i64 0), .sc (.int .i64 0), .sc (.int .i64 0), .sc (.int .i64 0), .sc (.int .i64 0), .sc (.int .i64 0), .sc (.int .i64 0)]),
  o0 (.store 171 0 22 false 9 (.s 34)),
  o1 10 (.mv false (.s 35))]
def g_law18_heads_6 : List (IStep2 RW) := [o1 36 (.mv false (.s 2)),
  o1 37 (.bin .eql (.s 36) (.k (.sc (.int .i64 0)))),
  o2 38 (.mv false (.s 37)),
  o3 39 38 true (.mv false (.s 4)),
  o3 40 38 true (.bin .eql (.s 39) (.k (.sc (.int .i64 0)))),
  o1 41 (.pick (.s 38) (.s 40) (.k (.sc (.bool false)))),
  o2 42 (.mv false (.s 41)),
  o3 43 42 true (.load 102 0 22 true false 3),
  o3 44 42 true (.call 15 [(false, .s 43)] []),
  o3 45 42 true (.bin .eql (.s 44) (.k (.sc (.int .i64 1000000)))),
  o1 46 (.pick (.s 42) (.s 45) (.k (.sc (.bool false)))),
  o2 47 (.mv false (.s 46)),
  o3 48 47 true (.load 102 0 22 true false 3),
  o3 49 47 true (.call 16 [(false, .s 48)] []),
  o3 50 47 true (.bin .eql (.s 49) (.k (.sc (.int .i64 100000)))),
  o1 51 (.pick (.s 47) (.s 50) (.k (.sc (.bool false)))),
  o2 52 (.mv false (.s 51)),
  o3 53 52 true (.load 102 0 22 true false 3),
  o3 54 52 true (.call 23 [(false, .s 53)] []),
  o3 55 52 true (.bin .eql (.s 54) (.k (.sc (.int .i64 289)))),
  o1 56 (.pick (.s 52) (.s 55) (.k (.sc (.bool false)))),
  o2 57 (.mv false (.s 56)),
  o3 58 57 true (.fld 14 (.s 3)),
  o3 59 57 true (.load 102 14 1 false false 58),
  o3 60 57 true (.bin .eql (.s 59) (.k (.sc (.int .i64 1)))),
  o1 61 (.pick (.s 57) (.s 60) (.k (.sc (.bool false)))),
  o2 62 (.mv false (.s 61)),
  o3 63 62 true (.mv false (.s 6)),
  o3 64 62 true (.bin .eql (.s 63) (.k (.sc (.int .i64 0)))),
  o1 65 (.pick (.s 62) (.s 64) (.k (.sc (.bool false)))),
  o2 66 (.mv false (.s 65)),
  o3 67 66 true (.fld 2 (.s 5)),
  o3 68 66 true (.load 125 2 1 false false 67),
  o3 69 66 true (.bin .eql (.s 68) (.k (.sc (.int .i64 10)))),
  o1 70 (.pick (.s 66) (.s 69) (.k (.sc (.bool false)))),
  o2 71 (.mv false (.s 70)),
  o3 72 71 true (.mv false (.s 8)),
  o3 73 71 true (.bin .eql (.s 72) (.k (.sc (.int .i64 2)))),
  o1 74 (.pick (.s 71) (.s 73) (.k (.sc (.bool false)))),
  o2 75 (.mv false (.s 74)),
  o3 76 75 true (.mv false (.s 10)),
  o3 77 75 true (.bin .eql (.s 76) (.k (.sc (.int .i64 230)))),
  o1 78 (.pick (.s 75) (.s 77) (.k (.sc (.bool false)))),
  o1 0 (.mv false (.s 78))]
def i_law18_heads_0 : IC2 RW := .seq (.fin (.reg g_law18_heads_5) [9, 30, 31, 32, 33, 34, 35] [(171, 22)]) (.seq (.fin (.reg g_law18_heads_6) [2, 3, 4, 5, 6, 8, 10, 36, 37, 38, 39, 40, 41, 42, 43, 44, 45, 46, 47, 48, 49, 50, 51, 52, 53, 54, 55, 56, 57, 58, 59, 60, 61, 62, 63, 64, 65, 66, 67, 68, 69, 70, 71, 72, 73, 74, 75, 76, 77, 78] [(102, 22), (125, 22)]) (.ret))
def g_law18_heads_0 : List (IStep2 RW) := [o1 0 (.mv false (.k (.sc (.bool false))))]
def g_law18_heads_1 : List (IStep2 RW) := [o1 12 (.call 9 [(false, .k (.sc (.int .i64 10))), (false, .k (.sc (.int .i64 4)))] []),
  o1 11 (.mv false (.s 12)),
  o1 13 (.ext false 0 (.s 11)),
  o1 14 (.ext false 1 (.s 11)),
  o1 1 (.alloc 79 [.sc (.int .i64 0), .sc (.int .i64 0), .sc (.int .i64 0), .sc (.int .i64 0), .sc (.int .i64 0), .sc (.int .i64 0), .sc (.int .i64 0), .sc (.int .i64 0), .sc (.int .i64 0), .sc (.int .i64 0), .sc (.int .i64 0), .row false (.rEntry []), .sc (.int .i64 0), .sc (.int .i64 0), .sc (.int .i64 0), .sc (.int .i64 0), .sc (.int .i64 0), .sc (.int .i64 0), .sc (.int .i64 0), .sc (.int .i64 0), .sc (.int .i64 0), .sc (.int .i64 0)]),
  o0 (.store 79 0 22 false 1 (.s 13)),
  o1 2 (.mv false (.s 14))]
def g_law18_heads_2 : List (IStep2 RW) := [o1 16 (.load 79 0 22 true false 1),
  o1 17 (.build [.sc (.int .i64 0), .sc (.int .i64 0), .sc (.int .i64 0), .sc (.int .i64 0), .sc (.bool false), .sc (.int .i64 0), .sc (.int .i64 0), .sc (.int .i64 0)] [(0, 1, .k (.sc (.int .i64 100000))), (1, 1, .k (.sc (.int .i64 10))), (2, 1, .k (.sc (.int .i64 100000))), (3, 1, .k (.sc (.int .i64 1000000))), (5, 1, .k (.sc (.int .i64 10))), (7, 1, .k (.sc (.int .i64 30)))]),
  o1 18 (.call 14 [(false, .s 16), (false, .s 17)] []),
  o1 15 (.mv false (.s 18)),
  o1 19 (.ext false 0 (.s 15)),
  o1 20 (.ext false 1 (.s 15)),
  o1 3 (.alloc 102 [.sc (.int .i64 0), .sc (.int .i64 0), .sc (.int .i64 0), .sc (.int .i64 0), .sc (.int .i64 0), .sc (.int .i64 0), .sc (.int .i64 0), .sc (.int .i64 0), .sc (.int .i64 0), .sc (.int .i64 0), .sc (.int .i64 0), .row false (.rEntry []), .sc (.int .i64 0), .sc (.int .i64 0), .sc (.int .i64 0), .sc (.int .i64 0), .sc (.int .i64 0), .sc (.int .i64 0), .sc (.int .i64 0), .sc (.int .i64 0), .sc (.int .i64 0), .sc (.int .i64 0)]),
  o0 (.store 102 0 22 false 3 (.s 19)),
  o1 4 (.mv false (.s 20))]
def g_law18_heads_3 : List (IStep2 RW) := [o1 22 (.load 102 0 22 true false 3),
  o1 23 (.call 7 [(false, .s 22), (false, .k (.sc (.int .i64 5)))] []),
  o1 21 (.mv false (.s 23)),
  o1 24 (.ext false 0 (.s 21)),
  o1 25 (.ext false 1 (.s 21)),
  o1 5 (.alloc 125 [.sc (.int .i64 0), .sc (.int .i64 0), .sc (.int .i64 0), .sc (.int .i64 0), .sc (.int .i64 0), .sc (.int .i64 0), .sc (.int .i64 0), .sc (.int .i64 0), .sc (.int .i64 0), .sc (.int .i64 0), .sc (.int .i64 0), .row false (.rEntry []), .sc (.int .i64 0), .sc (.int .i64 0), .sc (.int .i64 0), .sc (.int .i64 0), .sc (.int .i64 0), .sc (.int .i64 0), .sc (.int .i64 0), .sc (.int .i64 0), .sc (.int .i64 0), .sc (.int .i64 0)]),
  o0 (.store 125 0 22 false 5 (.s 24)),
  o1 6 (.mv false (.s 25))]
def g_law18_heads_4 : List (IStep2 RW) := [o1 27 (.call 9 [(false, .k (.sc (.int .i64 0))), (false, .k (.sc (.int .i64 1)))] []),
  o1 26 (.mv false (.s 27)),
  o1 28 (.ext false 0 (.s 26)),
  o1 29 (.ext false 1 (.s 26)),
  o1 7 (.alloc 148 [.sc (.int .i64 0), .sc (.int .i64 0), .sc (.int .i64 0), .sc (.int .i64 0), .sc (.int .i64 0), .sc (.int .i64 0), .sc (.int .i64 0), .sc (.int .i64 0), .sc (.int .i64 0), .sc (.int .i64 0), .sc (.int .i64 0), .row false (.rEntry []), .sc (.int .i64 0), .sc (.int .i64 0), .sc (.int .i64 0), .sc (.int .i64 0), .sc (.int .i64 0), .sc (.int .i64 0), .sc (.int .i64 0), .sc (.int .i64 0), .sc (.int .i64 0), .sc (.int .i64 0)]),
  o0 (.store 148 0 22 false 7 (.s 28)),
  o1 8 (.mv false (.s 29))]
def i_law18_heads_1 : IC2 RW := .seq (.fin (.reg g_law18_heads_0) [0] []) (.seq (.fin (.reg g_law18_heads_1) [11, 12, 13, 14] []) (.seq (.fin (.reg g_law18_heads_2) [1, 15, 16, 17, 18, 19, 20] [(79, 22)]) (.seq (.fin (.reg g_law18_heads_3) [21, 22, 23, 24, 25] []) (.seq (.fin (.reg g_law18_heads_4) [7, 26, 27, 28, 29] [(148, 22)]) i_law18_heads_0))))
def fn_law18_heads : IFn2 RW := ⟨13, 0, 79, 208, [(79, 22), (102, 22), (125, 22), (148, 22), (171, 22)], [], [.slot 0], i_law18_heads_1⟩
def g_law18_BbrSteady_2 : List (IStep2 RW) := [o1 37 (.call 13 [] []),
  o1 6 (.mv false (.s 37))]
def i_law18_BbrSteady_0 : IC2 RW := .fin (.cond (.s 36) (.seq (.fin (.reg g_law18_BbrSteady_2) [0, 1, 2, 36, 37] []) (.ret)) (.skip)) [36] []
def g_law18_BbrSteady_1 : List (IStep2 RW) := [o1 15 (.mv false (.s 0)),
  o1 16 (.bin .lss (.s 15) (.k (.sc (.int .i64 1)))),
  o2 17 (.mv false (.s 16)),
  o3 18 17 false (.mv false (.s 0)),
  o3 19 17 false (.bin .gtr (.s 18) (.k (.sc (.int .i64 10000)))),
  o1 20 (.pick (.s 17) (.k (.sc (.bool true))) (.s 19)),
  o2 21 (.mv false (.s 20)),
  o3 22 21 false (.mv false (.s 1)),
  o3 23 21 false (.bin .lss (.s 22) (.k (.sc (.int .i64 1000)))),
  o1 24 (.pick (.s 21) (.k (.sc (.bool true))) (.s 23)),
  o2 25 (.mv false (.s 24)),
  o3 26 25 false (.mv false (.s 1)),
  o3 27 25 false (.bin .gtr (.s 26) (.k (.sc (.int .i64 1073741824)))),
  o1 28 (.pick (.s 25) (.k (.sc (.bool true))) (.s 27)),
  o2 29 (.mv false (.s 28)),
  o3 30 29 false (.mv false (.s 2)),
  o3 31 29 false (.bin .lss (.s 30) (.k (.sc (.int .i64 1000)))),
  o1 32 (.pick (.s 29) (.k (.sc (.bool true))) (.s 31)),
  o2 33 (.mv false (.s 32)),
  o3 34 33 false (.mv false (.s 2)),
  o3 35 33 false (.bin .gtr (.s 34) (.k (.sc (.int .i64 1000000)))),
  o1 36 (.pick (.s 33) (.k (.sc (.bool true))) (.s 35))]
def i_law18_BbrSteady_1 : IC2 RW := .seq (.fin (.reg g_law18_BbrSteady_1) [15, 16, 17, 18, 19, 20, 21, 22, 23, 24, 25, 26, 27, 28, 29, 30, 31, 32, 33, 34, 35] []) i_law18_BbrSteady_0
def g_law18_BbrSteady_8 : List (IStep2 RW) := [o1 45 (.mv false (.s 10)),
  o1 46 (.bin .leq (.s 45) (.k (.sc (.int .i64 12))))]
def g_law18_BbrSteady_10 : List (IStep2 RW) := [o1 49 (.mv false (.s 1)),
  o1 50 (.bin .quo (.s 49) (.k (.sc (.int .i64 1000)))),
  o1 51 (.mv false (.s 2)),
  o1 52 (.bin .quo (.s 51) (.k (.sc (.int .i64 1000)))),
  o1 53 (.bin .mul (.s 50) (.s 52)),
  o1 11 (.mv false (.s 53))]
def g_law18_BbrSteady_11 : List (IStep2 RW) := [o1 55 (.load 125 0 22 true false 7),
  o1 56 (.mv false (.s 10)),
  o1 57 (.mv false (.s 2)),
  o1 58 (.bin .mul (.s 56) (.s 57)),
  o1 59 (.mv false (.s 11)),
  o1 60 (.bin .add (.s 59) (.k (.sc (.int .i64 1000000)))),
  o1 61 (.mnmx false [.s 60, .k (.sc (.int .i64 1073741824))]),
  o1 62 (.mv false (.s 2)),
  o1 63 (.mv false (.s 1)),
  o1 64 (.mv false (.s 9)),
  o1 65 (.bin .add (.s 64) (.k (.sc (.int .i64 1000)))),
  o1 66 (.mv false (.s 9)),
  o1 67 (.build [.sc (.int .i64 0), .sc (.int .i64 0), .sc (.int .i64 0), .sc (.int .i64 0), .sc (.bool false), .sc (.int .i64 0), .sc (.int .i64 0), .sc (.int .i64 0)] [(0, 1, .s 58), (1, 1, .s 61), (2, 1, .s 62), (3, 1, .s 63), (5, 1, .s 65), (6, 1, .s 66), (7, 1, .k (.sc (.int .i64 0)))]),
  o1 68 (.call 14 [(false, .s 55), (false, .s 67)] []),
  o1 54 (.mv false (.s 68)),
  o1 69 (.ext false 0 (.s 54)),
  o1 70 (.ext false 1 (.s 54)),
  o1 12 (.alloc 148 [.sc (.int .i64 0), .sc (.int .i64 0), .sc (.int .i64 0), .sc (.int .i64 0), .sc (.int .i64 0), .sc (.int .i64 0), .sc (.int .i64 0), .sc (.int .i64 0), .sc (.int .i64 0), .sc (.int .i64 0), .sc (.int .i64 0), .row false (.rEntry []), .sc (.int .i64 0), .sc (.int .i64 0), .sc (.int .i64 0), .sc (.int .i64 0), .sc (.int .i64 0), .sc (.int .i64 0), .sc (.int .i64 0), .sc (.int .i64 0), .sc (.int .i64 0), .sc (.int .i64 0)]),
  o0 (.store 148 0 22 false 12 (.s 69)),
  o1 13 (.mv false (.s 70))]
def g_law18_BbrSteady_12 : List (IStep2 RW) := [o1 71 (.mv false (.s 13)),
  o1 72 (.bin .neq (.s 71) (.k (.sc (.int .i64 0))))]
def g_law18_BbrSteady_13 : List (IStep2 RW) := [o1 6 (.mv false (.k (.sc (.bool false))))]
def g_law18_BbrSteady_14 : List (IStep2 RW) := [o1 73 (.mv false (.s 9)),
  o1 74 (.bin .add (.s 73) (.k (.sc (.int .i64 1000)))),
  o1 9 (.mv false (.s 74))]
def g_law18_BbrSteady_15 : List (IStep2 RW) := [o1 75 (.load 148 0 22 true false 12),
  o0 (.store 125 0 22 false 7 (.s 75))]
def g_law18_BbrSteady_9 : List (IStep2 RW) := [o1 47 (.mv false (.s 10)),
  o1 48 (.bin .add (.s 47) (.k (.sc (.int .i64 1)))),
  o1 10 (.mv false (.s 48))]
def i_law18_BbrSteady_2 : IC2 RW := .seq (.seq (.fin (.reg g_law18_BbrSteady_8) [45] []) (.fin (.cond (.s 46) (.skip) (.clr [9, 10, 46] [] (.exit 0))) [46] [])) (.seq (.blk 1 (.seq (.fin (.reg g_law18_BbrSteady_10) [49, 50, 51, 52, 53] []) (.seq (.fin (.reg g_law18_BbrSteady_11) [11, 54, 55, 56, 57, 58, 59, 60, 61, 62, 63, 64, 65, 66, 67, 68, 69, 70] []) (.seq (.seq (.fin (.reg g_law18_BbrSteady_12) [13, 71] []) (.fin (.cond (.s 72) (.seq (.fin (.reg g_law18_BbrSteady_13) [0, 1, 2, 7, 9, 10, 12, 72] [(125, 22), (148, 22)]) (.ret)) (.skip)) [72] [])) (.seq (.fin (.reg g_law18_BbrSteady_14) [73, 74] []) (.fin (.reg g_law18_BbrSteady_15) [12, 75] [(148, 22)])))))) (.fin (.reg g_law18_BbrSteady_9) [47, 48] []))
def i_law18_BbrSteady_3 : IC2 RW := .loop i_law18_BbrSteady_2
def i_law18_BbrSteady_4 : IC2 RW := .blk 0 i_law18_BbrSteady_3
def g_law18_BbrSteady_7 : List (IStep2 RW) := [o1 10 (.mv false (.k (.sc (.int .i64 1))))]
def i_law18_BbrSteady_5 : IC2 RW := .seq (.reg g_law18_BbrSteady_7) i_law18_BbrSteady_4
def g_law18_BbrSteady_16 : List (IStep2 RW) := [o1 76 (.mv false (.s 0)),
  o1 77 (.bin .mul (.k (.sc (.int .i64 4))) (.s 76)),
  o1 78 (.load 125 0 22 true false 7),
  o1 79 (.call 16 [(false, .s 78)] []),
  o1 80 (.bin .mul (.k (.sc (.int .i64 2))) (.s 79)),
  o1 81 (.mnmx true [.s 77, .s 80]),
  o1 14 (.mv false (.s 81))]
def g_law18_BbrSteady_17 : List (IStep2 RW) := [o1 82 (.fld 17 (.s 7)),
  o1 83 (.load 125 17 1 false false 82),
  o1 84 (.bin .eql (.s 83) (.k (.sc (.int .i64 3)))),
  o2 85 (.mv false (.s 84)),
  o3 86 85 true (.fld 10 (.s 7)),
  o3 87 85 true (.load 125 10 1 false false 86),
  o3 88 85 true (.bin .eql (.s 87) (.k (.sc (.int .i64 3)))),
  o1 89 (.pick (.s 85) (.s 88) (.k (.sc (.bool false)))),
  o2 90 (.mv false (.s 89)),
  o3 91 90 true (.load 125 0 22 true false 7),
  o3 92 90 true (.call 15 [(false, .s 91)] []),
  o3 93 90 true (.mv false (.s 1)),
  o3 94 90 true (.bin .eql (.s 92) (.s 93)),
  o1 95 (.pick (.s 90) (.s 94) (.k (.sc (.bool false)))),
  o2 96 (.mv false (.s 95)),
  o3 97 96 true (.fld 12 (.s 7)),
  o3 98 96 true (.load 125 12 1 false false 97),
  o3 99 96 true (.mv false (.s 2)),
  o3 100 96 true (.bin .eql (.s 98) (.s 99)),
  o1 101 (.pick (.s 96) (.s 100) (.k (.sc (.bool false)))),
  o2 102 (.mv false (.s 101)),
  o3 103 102 true (.fld 2 (.s 7)),
  o3 104 102 true (.load 125 2 1 false false 103),
  o3 105 102 true (.mv false (.s 14)),
  o3 106 102 true (.mnmx false [.s 105, .k (.sc (.int .i64 1073741824))]),
  o3 107 102 true (.bin .eql (.s 104) (.s 106)),
  ⟨some 108, .mv false (.s 107), (some (102, true)), true⟩,
  o3 109 108 false (.fld 2 (.s 7)),
  o3 110 108 false (.load 125 2 1 false false 109),
  o3 111 108 false (.mv false (.s 14)),
  o3 112 108 false (.bin .lss (.s 110) (.s 111)),
  ⟨some 113, .mv false (.s 112), (some (108, false)), true⟩,
  o3 114 113 true (.fld 2 (.s 7)),
  o3 115 113 true (.load 125 2 1 false false 114),
  o3 116 113 true (.mv false (.s 0)),
  o3 117 113 true (.bin .mul (.k (.sc (.int .i64 10))) (.s 116)),
  o3 118 113 true (.bin .geq (.s 115) (.s 117)),
  o3 119 108 false (.pick (.s 113) (.s 118) (.k (.sc (.bool false)))),
  o3 120 102 true (.pick (.s 108) (.k (.sc (.bool true))) (.s 119)),
  o1 121 (.pick (.s 102) (.s 120) (.k (.sc (.bool false)))),
  o2 122 (.mv false (.s 121)),
  o3 123 122 true (.call 13 [] []),
  o1 124 (.pick (.s 122) (.s 123) (.k (.sc (.bool false)))),
  o1 6 (.mv false (.s 124))]
def i_law18_BbrSteady_6 : IC2 RW := .seq (.fin (.reg g_law18_BbrSteady_16) [76, 77, 78, 79, 80, 81] []) (.seq (.fin (.reg g_law18_BbrSteady_17) [0, 1, 2, 7, 14, 82, 83, 84, 85, 86, 87, 88, 89, 90, 91, 92, 93, 94, 95, 96, 97, 98, 99, 100, 101, 102, 103, 104, 105, 106, 107, 108, 109, 110, 111, 112, 113, 114, 115, 116, 117, 118, 119, 120, 121, 122, 123, 124] [(125, 22)]) (.ret))
def i_law18_BbrSteady_7 : IC2 RW := .seq i_law18_BbrSteady_5 i_law18_BbrSteady_6
def g_law18_BbrSteady_3 : List (IStep2 RW) := [o1 39 (.mv false (.s 0)),
  o1 40 (.call 9 [(false, .s 39), (false, .k (.sc (.int .i64 10)))] []),
  o1 38 (.mv false (.s 40)),
  o1 41 (.ext false 0 (.s 38)),
  o1 42 (.ext false 1 (.s 38)),
  o1 7 (.alloc 125 [.sc (.int .i64 0), .sc (.int .i64 0), .sc (.int .i64 0), .sc (.int .i64 0), .sc (.int .i64 0), .sc (.int .i64 0), .sc (.int .i64 0), .sc (.int .i64 0), .sc (.int .i64 0), .sc (.int .i64 0), .sc (.int .i64 0), .row false (.rEntry []), .sc (.int .i64 0), .sc (.int .i64 0), .sc (.int .i64 0), .sc (.int .i64 0), .sc (.int .i64 0), .sc (.int .i64 0), .sc (.int .i64 0), .sc (.int .i64 0), .sc (.int .i64 0), .sc (.int .i64 0)]),
  o0 (.store 125 0 22 false 7 (.s 41)),
  o1 8 (.mv false (.s 42))]
def g_law18_BbrSteady_4 : List (IStep2 RW) := [o1 43 (.mv false (.s 8)),
  o1 44 (.bin .neq (.s 43) (.k (.sc (.int .i64 0))))]
def g_law18_BbrSteady_5 : List (IStep2 RW) := [o1 6 (.mv false (.k (.sc (.bool false))))]
def g_law18_BbrSteady_6 : List (IStep2 RW) := [o1 9 (.mv false (.k (.sc (.int .i64 0))))]
def i_law18_BbrSteady_8 : IC2 RW := .seq (.fin (.reg g_law18_BbrSteady_3) [38, 39, 40, 41, 42] []) (.seq (.seq (.fin (.reg g_law18_BbrSteady_4) [8, 43] []) (.fin (.cond (.s 44) (.seq (.fin (.reg g_law18_BbrSteady_5) [0, 1, 2, 7, 44] [(125, 22)]) (.ret)) (.skip)) [44] [])) (.seq (.reg g_law18_BbrSteady_6) i_law18_BbrSteady_7))
def i_law18_BbrSteady_9 : IC2 RW := .seq i_law18_BbrSteady_1 i_law18_BbrSteady_8
def g_law18_BbrSteady_0 : List (IStep2 RW) := [o1 6 (.mv false (.k (.sc (.bool false))))]
def i_law18_BbrSteady_10 : IC2 RW := .seq (.fin (.reg g_law18_BbrSteady_0) [6] []) i_law18_BbrSteady_9
def fn_law18_BbrSteady : IFn2 RW := ⟨5, 3, 125, 176, [(125, 22), (148, 22)], [], [.slot 6], i_law18_BbrSteady_10⟩
/-! tideway/reno.New -/
theorem run_reno_New {R : Type} (cp : Nat → Nat → Bool) (n : Nat) (p0 p1 : Int) (k : Ret2 RW → Option R) : G_reno_New cp (n + 1) p0 p1 (fun r0 r1 => k ⟨.tup [.agg (eCc r0), (tL r1)], []⟩) = run2 U cp (callP cp n) n fn_reno_New [(tL p0), (tL p1)] [] k := by kernel_rfl
/-! tideway/bbr.New -/
theorem run_bbr_New {R : Type} (cp : Nat → Nat → Bool) (n : Nat) (p0 p1 : Int) (k : Ret2 RW → Option R) : G_bbr_New cp (n + 1) p0 p1 (fun r0 r1 => k ⟨.tup [.agg (eCc r0), (tL r1)], []⟩) = run2 U cp (callP cp n) n fn_bbr_New [(tL p0), (tL p1)] [] k := by kernel_rfl
/-! tideway/bbr.within -/
def fr_bbr_within_2 (p0 : Int) (p1 : (List Int)) : FF := [(tL p0) :: (.row false (.rint p1)) :: (dT 14 []), dc]
def fr_bbr_within_4 (p0 : Int) (p1 : (List Int)) (v5 : Int) : FF := [(tL p0) :: (dT 6 ((.row false (.rint p1)) :: (tL v5) :: (tL 0) :: (dT 6 []))), dc]
def fr_bbr_within_6 (p0 : Int) (p1 : (List Int)) (v5 v7 : Int) : FF := [(tL p0) :: (dT 6 ((.row false (.rint p1)) :: (tL v5) :: (tL v7) :: (dT 6 []))), dc]
def fr_bbr_within_7 : FF := [dT 4 ((tB false) :: (dT 11 [])), dc]
def fr_bbr_within_8 : FF := [dc, dc]
def fr_bbr_within_9 (p0 : Int) (p1 : (List Int)) (v5 v6 : Int) : FF := [(tL p0) :: (dT 6 ((.row false (.rint p1)) :: (tL v5) :: (tL v6) :: (dT 6 []))), dc]
theorem s_bbr_within_5_t {R : Type} (cp : Nat → Nat → Bool) (n : Nat) (p0 : Int) (p1 : (List Int)) (v5 v6 : Int) (k : Ex → FF → Option R) : X cp n i_bbr_within_0 (fr_bbr_within_9 p0 p1 v5 v6) k = s_bbr_within_5 cp n p0 p1 v5 v6 (fun v7 => k .norm (fr_bbr_within_6 p0 p1 v5 v7)) (k .ret fr_bbr_within_7) (k (.exit 0) fr_bbr_within_8) := by kernel_rfl
theorem l_bbr_within_10_t {R : Type} (cp : Nat → Nat → Bool) (n : Nat) : ∀ (m : Nat) (p0 : Int) (p1 : (List Int)) (v5 v6 : Int) (k : Ex → FF → Option R), loopN2 (X cp n i_bbr_within_0) m (fr_bbr_within_9 p0 p1 v5 v6) k = l_bbr_within_10 cp n m p0 p1 v5 v6 (k .ret fr_bbr_within_7) (k (.exit 0) fr_bbr_within_8)
  | 0, _, _, _, _, _ => rfl
  | m + 1, p0, p1, v5, v6, k => (loopN2_succ (X cp n i_bbr_within_0) m (fr_bbr_within_9 p0 p1 v5 v6) k).trans ((s_bbr_within_5_t cp n p0 p1 v5 v6 (loopT (X cp n i_bbr_within_0) m k)).trans ((show s_bbr_within_5 cp n p0 p1 v5 v6 (fun v7 => loopT (X cp n i_bbr_within_0) m k .norm (fr_bbr_within_6 p0 p1 v5 v7)) (loopT (X cp n i_bbr_within_0) m k .ret fr_bbr_within_7) (loopT (X cp n i_bbr_within_0) m k (.exit 0) fr_bbr_within_8) = s_bbr_within_5 cp n p0 p1 v5 v6 (fun v7 => loopN2 (X cp n i_bbr_within_0) m (fr_bbr_within_9 p0 p1 v5 v7) k) (k .ret fr_bbr_within_7) (k (.exit 0) fr_bbr_within_8) from by kernel_rfl).trans (congrArg (fun q => s_bbr_within_5 cp n p0 p1 v5 v6 q (k .ret fr_bbr_within_7) (k (.exit 0) fr_bbr_within_8)) (funext fun v7 => l_bbr_within_10_t cp n m p0 p1 v5 v7 k))))
theorem s_bbr_within_11_t {R : Type} (cp : Nat → Nat → Bool) (n : Nat) (p0 : Int) (p1 : (List Int)) (v5 : Int) (k : Ex → FF → Option R) : X cp n i_bbr_within_1 (fr_bbr_within_4 p0 p1 v5) k = s_bbr_within_11 cp n p0 p1 v5 (k .ret fr_bbr_within_7) (k (.exit 0) fr_bbr_within_8) := (show X cp n i_bbr_within_1 (fr_bbr_within_4 p0 p1 v5) k = loopN2 (X cp n i_bbr_within_0) n (fr_bbr_within_9 p0 p1 v5 0) k from by kernel_rfl).trans (l_bbr_within_10_t cp n n p0 p1 v5 0 k)
theorem s_bbr_within_12_t {R : Type} (cp : Nat → Nat → Bool) (n : Nat) (p0 : Int) (p1 : (List Int)) (v5 : Int) (k : Ex → FF → Option R) : X cp n i_bbr_within_2 (fr_bbr_within_4 p0 p1 v5) k = s_bbr_within_12 cp n p0 p1 v5 (k .norm fr_bbr_within_8) (k .ret fr_bbr_within_7) := (show X cp n i_bbr_within_2 (fr_bbr_within_4 p0 p1 v5) k = X cp n i_bbr_within_1 (fr_bbr_within_4 p0 p1 v5) (blkT 0 k) from by kernel_rfl).trans ((s_bbr_within_11_t cp n p0 p1 v5 (blkT 0 k)).trans (by kernel_rfl))
theorem s_bbr_within_13_t {R : Type} (cp : Nat → Nat → Bool) (n : Nat) (p0 : Int) (p1 : (List Int)) (k : Ex → FF → Option R) : X cp n i_bbr_within_3 (fr_bbr_within_2 p0 p1) k = s_bbr_within_13 cp n p0 p1 (k .norm fr_bbr_within_8) (k .ret fr_bbr_within_7) := ((fun c => (show X cp n (.seq (.fin (.reg g_bbr_within_1) [1] []) c) (fr_bbr_within_2 p0 p1) k = s_bbr_within_3 cp n p0 p1 (fun v5 => X cp n c (fr_bbr_within_4 p0 p1 v5) k) from by kernel_rfl)) i_bbr_within_2).trans (congrArg (fun q => s_bbr_within_3 cp n p0 p1 q) (funext fun v5 => s_bbr_within_12_t cp n p0 p1 v5 k))
def fr_bbr_within_15 : FF := [dT 4 ((tB true) :: (dT 11 [])), dc]
theorem s_bbr_within_14_t {R : Type} (cp : Nat → Nat → Bool) (n : Nat) (k : Ex → FF → Option R) : X cp n i_bbr_within_4 fr_bbr_within_8 k = s_bbr_within_14 cp n (k .ret fr_bbr_within_15) := by kernel_rfl
def fr_bbr_within_16 (v8 : Bool) : FF := [dT 4 ((tB v8) :: (dT 11 [])), dc]
theorem s_bbr_within_17_t {R : Type} (cp : Nat → Nat → Bool) (n : Nat) (p0 : Int) (p1 : (List Int)) (k : Ex → FF → Option R) : X cp n i_bbr_within_5 (fr_bbr_within_2 p0 p1) k = s_bbr_within_17 cp n p0 p1 (fun v8 => k .ret (fr_bbr_within_16 v8)) := (show X cp n i_bbr_within_5 (fr_bbr_within_2 p0 p1) k = X cp n i_bbr_within_3 (fr_bbr_within_2 p0 p1) (seqT (X cp n) i_bbr_within_4 k) from by kernel_rfl).trans ((show X cp n i_bbr_within_3 (fr_bbr_within_2 p0 p1) (seqT (X cp n) i_bbr_within_4 k) = s_bbr_within_13 cp n p0 p1 (X cp n i_bbr_within_4 fr_bbr_within_8 k) (k .ret (fr_bbr_within_16 false)) from (s_bbr_within_13_t cp n p0 p1 (seqT (X cp n) i_bbr_within_4 k)).trans (by kernel_rfl)).trans (congrArg (fun q => s_bbr_within_13 cp n p0 p1 q (k .ret (fr_bbr_within_16 false))) ((s_bbr_within_14_t cp n  k).trans (show s_bbr_within_14 cp n (k .ret fr_bbr_within_15) = s_bbr_within_14 cp n (k .ret (fr_bbr_within_16 true)) from by kernel_rfl))))
def fr_bbr_within_18 (v9 : Bool) : FF := [dT 4 ((tB v9) :: (dT 11 [])), dc]
theorem s_bbr_within_19_t {R : Type} (cp : Nat → Nat → Bool) (n : Nat) (p0 : Int) (p1 : (List Int)) (k : Ex → FF → Option R) : X cp n i_bbr_within_6 (fr_bbr_within_2 p0 p1) k = s_bbr_within_19 cp n p0 p1 (fun v9 => k .ret (fr_bbr_within_18 v9)) := ((fun c => (show X cp n (.seq (.fin (.reg g_bbr_within_0) [4] []) c) (fr_bbr_within_2 p0 p1) k = s_bbr_within_1 cp n p0 p1 (X cp n c (fr_bbr_within_2 p0 p1) k) from by kernel_rfl)) i_bbr_within_5).trans (congrArg (fun q => s_bbr_within_1 cp n p0 p1 q) ((s_bbr_within_17_t cp n p0 p1 k).trans (show s_bbr_within_17 cp n p0 p1 (fun v8 => k .ret (fr_bbr_within_16 v8)) = s_bbr_within_17 cp n p0 p1 (fun v8 => k .ret (fr_bbr_within_18 v8)) from by kernel_rfl)))
theorem run_bbr_within {R : Type} (cp : Nat → Nat → Bool) (n : Nat) (p0 : Int) (p1 : (List Int)) (k : Ret2 RW → Option R) : G_bbr_within cp (n + 1) p0 p1 (fun r0 => k ⟨(tB r0), []⟩) = run2 U cp (callP cp n) n fn_bbr_within [(tL p0), .row false (.rint p1)] [] k := ((X_run (f := fn_bbr_within) (av := [(tL p0), .row false (.rint p1)]) (cells := []) (code := i_bbr_within_6) (fr := (fr_bbr_within_2 p0 p1)) (k := k) (by kernel_rfl) (fun K => by kernel_rfl)).trans ((s_bbr_within_19_t cp n p0 p1 (finK2 fn_bbr_within k)).trans (by kernel_rfl))).symm
/-! tideway/filter.may -/
theorem run_filter_may {R : Type} (cp : Nat → Nat → Bool) (n : Nat) (p0 : SEntry) (k : Ret2 RW → Option R) : G_filter_may cp (n + 1) p0 (fun r0 => k ⟨(tB r0), []⟩) = run2 U cp (callP cp n) n fn_filter_may [.agg (eEntry p0)] [] k := by kernel_rfl
/-! tideway/filter.beats -/
theorem run_filter_beats {R : Type} (cp : Nat → Nat → Bool) (n : Nat) (p0 p1 : Int) (p2 : Bool) (k : Ret2 RW → Option R) : G_filter_beats cp (n + 1) p0 p1 p2 (fun r0 => k ⟨(tB r0), []⟩) = run2 U cp (callP cp n) n fn_filter_beats [(tL p0), (tL p1), (tB p2)] [] k := by kernel_rfl
/-! tideway/filter.Check -/
def fr_filter_Check_2 (p0 : (List SEntry)) (p1 : Bool) : FF := [(.row false (.rEntry p0)) :: (tB p1) :: (dT 14 []), dc, dc]
def fr_filter_Check_4 (p0 : (List SEntry)) (p1 : Bool) (v13 : Int) : FF := [(.row false (.rEntry p0)) :: (tB p1) :: (dT 5 ((.row false (.rEntry p0)) :: (tL v13) :: (tL 0) :: (dT 6 []))), dc, dc]
def fr_filter_Check_6 (p0 : (List SEntry)) (p1 : Bool) (v13 v17 : Int) : FF := [(.row false (.rEntry p0)) :: (tB p1) :: (dT 5 ((.row false (.rEntry p0)) :: (tL v13) :: (tL v17) :: (dT 6 []))), dc, dc]
def fr_filter_Check_7 : FF := [dT 4 ((tL 2) :: (dT 11 [])), dc, dc]
def fr_filter_Check_8 : FF := [dc, dc, dc]
def fr_filter_Check_9 (p0 : (List SEntry)) (p1 : Bool) (v13 v14 : Int) : FF := [(.row false (.rEntry p0)) :: (tB p1) :: (dT 5 ((.row false (.rEntry p0)) :: (tL v13) :: (tL v14) :: (dT 6 []))), dc, dc]
theorem s_filter_Check_5_t {R : Type} (cp : Nat → Nat → Bool) (n : Nat) (p0 : (List SEntry)) (p1 : Bool) (v13 v14 : Int) (k : Ex → FF → Option R) : X cp n i_filter_Check_0 (fr_filter_Check_9 p0 p1 v13 v14) k = s_filter_Check_5 cp n p0 p1 v13 v14 (fun v17 => k .norm (fr_filter_Check_6 p0 p1 v13 v17)) (k .ret fr_filter_Check_7) (k (.exit 0) fr_filter_Check_8) := by kernel_rfl
theorem l_filter_Check_10_t {R : Type} (cp : Nat → Nat → Bool) (n : Nat) : ∀ (m : Nat) (p0 : (List SEntry)) (p1 : Bool) (v13 v14 : Int) (k : Ex → FF → Option R), loopN2 (X cp n i_filter_Check_0) m (fr_filter_Check_9 p0 p1 v13 v14) k = l_filter_Check_10 cp n m p0 p1 v13 v14 (k .ret fr_filter_Check_7) (k (.exit 0) fr_filter_Check_8)
  | 0, _, _, _, _, _ => rfl
  | m + 1, p0, p1, v13, v14, k => (loopN2_succ (X cp n i_filter_Check_0) m (fr_filter_Check_9 p0 p1 v13 v14) k).trans ((s_filter_Check_5_t cp n p0 p1 v13 v14 (loopT (X cp n i_filter_Check_0) m k)).trans ((show s_filter_Check_5 cp n p0 p1 v13 v14 (fun v17 => loopT (X cp n i_filter_Check_0) m k .norm (fr_filter_Check_6 p0 p1 v13 v17)) (loopT (X cp n i_filter_Check_0) m k .ret fr_filter_Check_7) (loopT (X cp n i_filter_Check_0) m k (.exit 0) fr_filter_Check_8) = s_filter_Check_5 cp n p0 p1 v13 v14 (fun v17 => loopN2 (X cp n i_filter_Check_0) m (fr_filter_Check_9 p0 p1 v13 v17) k) (k .ret fr_filter_Check_7) (k (.exit 0) fr_filter_Check_8) from by kernel_rfl).trans (congrArg (fun q => s_filter_Check_5 cp n p0 p1 v13 v14 q (k .ret fr_filter_Check_7) (k (.exit 0) fr_filter_Check_8)) (funext fun v17 => l_filter_Check_10_t cp n m p0 p1 v13 v17 k))))
theorem s_filter_Check_11_t {R : Type} (cp : Nat → Nat → Bool) (n : Nat) (p0 : (List SEntry)) (p1 : Bool) (v13 : Int) (k : Ex → FF → Option R) : X cp n i_filter_Check_1 (fr_filter_Check_4 p0 p1 v13) k = s_filter_Check_11 cp n p0 p1 v13 (k .ret fr_filter_Check_7) (k (.exit 0) fr_filter_Check_8) := (show X cp n i_filter_Check_1 (fr_filter_Check_4 p0 p1 v13) k = loopN2 (X cp n i_filter_Check_0) n (fr_filter_Check_9 p0 p1 v13 0) k from by kernel_rfl).trans (l_filter_Check_10_t cp n n p0 p1 v13 0 k)
theorem s_filter_Check_12_t {R : Type} (cp : Nat → Nat → Bool) (n : Nat) (p0 : (List SEntry)) (p1 : Bool) (v13 : Int) (k : Ex → FF → Option R) : X cp n i_filter_Check_2 (fr_filter_Check_4 p0 p1 v13) k = s_filter_Check_12 cp n p0 p1 v13 (k .norm fr_filter_Check_8) (k .ret fr_filter_Check_7) := (show X cp n i_filter_Check_2 (fr_filter_Check_4 p0 p1 v13) k = X cp n i_filter_Check_1 (fr_filter_Check_4 p0 p1 v13) (blkT 0 k) from by kernel_rfl).trans ((s_filter_Check_11_t cp n p0 p1 v13 (blkT 0 k)).trans (by kernel_rfl))
theorem s_filter_Check_13_t {R : Type} (cp : Nat → Nat → Bool) (n : Nat) (p0 : (List SEntry)) (p1 : Bool) (k : Ex → FF → Option R) : X cp n i_filter_Check_3 (fr_filter_Check_2 p0 p1) k = s_filter_Check_13 cp n p0 p1 (k .norm fr_filter_Check_8) (k .ret fr_filter_Check_7) := ((fun c => (show X cp n (.seq (.reg g_filter_Check_1) c) (fr_filter_Check_2 p0 p1) k = s_filter_Check_3 cp n p0 p1 (fun v13 => X cp n c (fr_filter_Check_4 p0 p1 v13) k) from by kernel_rfl)) i_filter_Check_2).trans (congrArg (fun q => s_filter_Check_3 cp n p0 p1 q) (funext fun v13 => s_filter_Check_12_t cp n p0 p1 v13 k))
def fr_filter_Check_15 : FF := [dT 4 ((tL 0) :: (dT 11 [])), dc, dc]
theorem s_filter_Check_14_t {R : Type} (cp : Nat → Nat → Bool) (n : Nat) (k : Ex → FF → Option R) : X cp n i_filter_Check_4 fr_filter_Check_8 k = s_filter_Check_14 cp n (k .ret fr_filter_Check_15) := by kernel_rfl
def fr_filter_Check_16 (v18 : Int) : FF := [dT 4 ((tL v18) :: (dT 11 [])), dc, dc]
theorem s_filter_Check_17_t {R : Type} (cp : Nat → Nat → Bool) (n : Nat) (p0 : (List SEntry)) (p1 : Bool) (k : Ex → FF → Option R) : X cp n i_filter_Check_5 (fr_filter_Check_2 p0 p1) k = s_filter_Check_17 cp n p0 p1 (fun v18 => k .ret (fr_filter_Check_16 v18)) := (show X cp n i_filter_Check_5 (fr_filter_Check_2 p0 p1) k = X cp n i_filter_Check_3 (fr_filter_Check_2 p0 p1) (seqT (X cp n) i_filter_Check_4 k) from by kernel_rfl).trans ((show X cp n i_filter_Check_3 (fr_filter_Check_2 p0 p1) (seqT (X cp n) i_filter_Check_4 k) = s_filter_Check_13 cp n p0 p1 (X cp n i_filter_Check_4 fr_filter_Check_8 k) (k .ret (fr_filter_Check_16 2)) from (s_filter_Check_13_t cp n p0 p1 (seqT (X cp n) i_filter_Check_4 k)).trans (by kernel_rfl)).trans (congrArg (fun q => s_filter_Check_13 cp n p0 p1 q (k .ret (fr_filter_Check_16 2))) ((s_filter_Check_14_t cp n  k).trans (show s_filter_Check_14 cp n (k .ret fr_filter_Check_15) = s_filter_Check_14 cp n (k .ret (fr_filter_Check_16 0)) from by kernel_rfl))))
def fr_filter_Check_18 (v19 : Int) : FF := [dT 4 ((tL v19) :: (dT 11 [])), dc, dc]
theorem s_filter_Check_19_t {R : Type} (cp : Nat → Nat → Bool) (n : Nat) (p0 : (List SEntry)) (p1 : Bool) (k : Ex → FF → Option R) : X cp n i_filter_Check_6 (fr_filter_Check_2 p0 p1) k = s_filter_Check_19 cp n p0 p1 (fun v19 => k .ret (fr_filter_Check_18 v19)) := ((fun c => (show X cp n (.seq (.fin (.reg g_filter_Check_0) [4] []) c) (fr_filter_Check_2 p0 p1) k = s_filter_Check_1 cp n p0 p1 (X cp n c (fr_filter_Check_2 p0 p1) k) from by kernel_rfl)) i_filter_Check_5).trans (congrArg (fun q => s_filter_Check_1 cp n p0 p1 q) ((s_filter_Check_17_t cp n p0 p1 k).trans (show s_filter_Check_17 cp n p0 p1 (fun v18 => k .ret (fr_filter_Check_16 v18)) = s_filter_Check_17 cp n p0 p1 (fun v18 => k .ret (fr_filter_Check_18 v18)) from by kernel_rfl)))
theorem run_filter_Check {R : Type} (cp : Nat → Nat → Bool) (n : Nat) (p0 : (List SEntry)) (p1 : Bool) (k : Ret2 RW → Option R) : G_filter_Check cp (n + 1) p0 p1 (fun r0 => k ⟨(tL r0), []⟩) = run2 U cp (callP cp n) n fn_filter_Check [.row false (.rEntry p0), (tB p1)] [] k := ((X_run (f := fn_filter_Check) (av := [.row false (.rEntry p0), (tB p1)]) (cells := []) (code := i_filter_Check_6) (fr := (fr_filter_Check_2 p0 p1)) (k := k) (by kernel_rfl) (fun K => by kernel_rfl)).trans ((s_filter_Check_19_t cp n p0 p1 (finK2 fn_filter_Check k)).trans (by kernel_rfl))).symm
/-! (*tideway/bbr.ctl).entries -/
def fr_bbr_ctl_entries_2 (q0 : Sctl) : FF := [(.ptr 36 0) :: (dT 15 []), dc, dT 4 ((.hdr 22) :: (sl 0 11 (ectl q0))), sl 11 11 (ectl q0) ++ (dT 5 [])]
def fr_bbr_ctl_entries_3 (q0 : Sctl) : FF := [dT 2 ((tB false) :: (dT 13 [])), dc, dT 4 ((.hdr 22) :: (sl 0 11 (ectl q0))), sl 11 11 (ectl q0) ++ (dT 5 [])]
def fr_bbr_ctl_entries_5 (q0 : Sctl) (v21 : Int) : FF := [(.ptr 36 0) :: (dT 15 []), (.row false (.rEntry q0.xCc_Bw)) :: (tL v21) :: (tL 0) :: (dT 13 []), dT 4 ((.hdr 22) :: (sl 0 11 (ectl q0))), sl 11 11 (ectl q0) ++ (dT 5 [])]
def fr_bbr_ctl_entries_7 (q0 : Sctl) (v21 v23 : Int) : FF := [(.ptr 36 0) :: (dT 15 []), (.row false (.rEntry q0.xCc_Bw)) :: (tL v21) :: (tL v23) :: (dT 13 []), dT 4 ((.hdr 22) :: (sl 0 11 (ectl q0))), sl 11 11 (ectl q0) ++ (dT 5 [])]
def fr_bbr_ctl_entries_8 (q0 : Sctl) : FF := [dc, dc, dT 4 ((.hdr 22) :: (sl 0 11 (ectl q0))), sl 11 11 (ectl q0) ++ (dT 5 [])]
def fr_bbr_ctl_entries_9 (q0 : Sctl) (v21 v22 : Int) : FF := [(.ptr 36 0) :: (dT 15 []), (.row false (.rEntry q0.xCc_Bw)) :: (tL v21) :: (tL v22) :: (dT 13 []), dT 4 ((.hdr 22) :: (sl 0 11 (ectl q0))), sl 11 11 (ectl q0) ++ (dT 5 [])]
theorem s_bbr_ctl_entries_6_t {R : Type} (cp : Nat → Nat → Bool) (n : Nat) (q0 : Sctl) (v21 v22 : Int) (k : Ex → FF → Option R) : X cp n i_bbr_ctl_entries_0 (fr_bbr_ctl_entries_9 q0 v21 v22) k = s_bbr_ctl_entries_6 cp n q0 v21 v22 (fun v23 => k .norm (fr_bbr_ctl_entries_7 q0 v21 v23)) (k .ret (fr_bbr_ctl_entries_3 q0)) (k (.exit 0) (fr_bbr_ctl_entries_8 q0)) := by kernel_rfl
theorem l_bbr_ctl_entries_10_t {R : Type} (cp : Nat → Nat → Bool) (n : Nat) : ∀ (m : Nat) (q0 : Sctl) (v21 v22 : Int) (k : Ex → FF → Option R), loopN2 (X cp n i_bbr_ctl_entries_0) m (fr_bbr_ctl_entries_9 q0 v21 v22) k = l_bbr_ctl_entries_10 cp n m q0 v21 v22 (k .ret (fr_bbr_ctl_entries_3 q0)) (k (.exit 0) (fr_bbr_ctl_entries_8 q0))
  | 0, _, _, _, _ => rfl
  | m + 1, q0, v21, v22, k => (loopN2_succ (X cp n i_bbr_ctl_entries_0) m (fr_bbr_ctl_entries_9 q0 v21 v22) k).trans ((s_bbr_ctl_entries_6_t cp n q0 v21 v22 (loopT (X cp n i_bbr_ctl_entries_0) m k)).trans ((show s_bbr_ctl_entries_6 cp n q0 v21 v22 (fun v23 => loopT (X cp n i_bbr_ctl_entries_0) m k .norm (fr_bbr_ctl_entries_7 q0 v21 v23)) (loopT (X cp n i_bbr_ctl_entries_0) m k .ret (fr_bbr_ctl_entries_3 q0)) (loopT (X cp n i_bbr_ctl_entries_0) m k (.exit 0) (fr_bbr_ctl_entries_8 q0)) = s_bbr_ctl_entries_6 cp n q0 v21 v22 (fun v23 => loopN2 (X cp n i_bbr_ctl_entries_0) m (fr_bbr_ctl_entries_9 q0 v21 v23) k) (k .ret (fr_bbr_ctl_entries_3 q0)) (k (.exit 0) (fr_bbr_ctl_entries_8 q0)) from by kernel_rfl).trans (congrArg (fun q => s_bbr_ctl_entries_6 cp n q0 v21 v22 q (k .ret (fr_bbr_ctl_entries_3 q0)) (k (.exit 0) (fr_bbr_ctl_entries_8 q0))) (funext fun v23 => l_bbr_ctl_entries_10_t cp n m q0 v21 v23 k))))
theorem s_bbr_ctl_entries_11_t {R : Type} (cp : Nat → Nat → Bool) (n : Nat) (q0 : Sctl) (v21 : Int) (k : Ex → FF → Option R) : X cp n i_bbr_ctl_entries_1 (fr_bbr_ctl_entries_5 q0 v21) k = s_bbr_ctl_entries_11 cp n q0 v21 (k .ret (fr_bbr_ctl_entries_3 q0)) (k (.exit 0) (fr_bbr_ctl_entries_8 q0)) := (show X cp n i_bbr_ctl_entries_1 (fr_bbr_ctl_entries_5 q0 v21) k = loopN2 (X cp n i_bbr_ctl_entries_0) n (fr_bbr_ctl_entries_9 q0 v21 0) k from by kernel_rfl).trans (l_bbr_ctl_entries_10_t cp n n q0 v21 0 k)
theorem s_bbr_ctl_entries_12_t {R : Type} (cp : Nat → Nat → Bool) (n : Nat) (q0 : Sctl) (v21 : Int) (k : Ex → FF → Option R) : X cp n i_bbr_ctl_entries_2 (fr_bbr_ctl_entries_5 q0 v21) k = s_bbr_ctl_entries_12 cp n q0 v21 (k .norm (fr_bbr_ctl_entries_8 q0)) (k .ret (fr_bbr_ctl_entries_3 q0)) := (show X cp n i_bbr_ctl_entries_2 (fr_bbr_ctl_entries_5 q0 v21) k = X cp n i_bbr_ctl_entries_1 (fr_bbr_ctl_entries_5 q0 v21) (blkT 0 k) from by kernel_rfl).trans ((s_bbr_ctl_entries_11_t cp n q0 v21 (blkT 0 k)).trans (by kernel_rfl))
theorem s_bbr_ctl_entries_13_t {R : Type} (cp : Nat → Nat → Bool) (n : Nat) (q0 : Sctl) (k : Ex → FF → Option R) : X cp n i_bbr_ctl_entries_3 (fr_bbr_ctl_entries_2 q0) k = s_bbr_ctl_entries_13 cp n q0 (k .norm (fr_bbr_ctl_entries_8 q0)) (k .ret (fr_bbr_ctl_entries_3 q0)) := ((fun c => (show X cp n (.seq (.fin (.reg g_bbr_ctl_entries_3) [12, 13, 14, 15] []) c) (fr_bbr_ctl_entries_2 q0) k = s_bbr_ctl_entries_4 cp n q0 (fun v21 => X cp n c (fr_bbr_ctl_entries_5 q0 v21) k) from by kernel_rfl)) i_bbr_ctl_entries_2).trans (congrArg (fun q => s_bbr_ctl_entries_4 cp n q0 q) (funext fun v21 => s_bbr_ctl_entries_12_t cp n q0 v21 k))
def fr_bbr_ctl_entries_15 (q0 : Sctl) : FF := [dT 2 ((tB true) :: (dT 13 [])), dc, dT 4 ((.hdr 22) :: (sl 0 11 (ectl q0))), sl 11 11 (ectl q0) ++ (dT 5 [])]
theorem s_bbr_ctl_entries_14_t {R : Type} (cp : Nat → Nat → Bool) (n : Nat) (q0 : Sctl) (k : Ex → FF → Option R) : X cp n i_bbr_ctl_entries_4 (fr_bbr_ctl_entries_8 q0) k = s_bbr_ctl_entries_14 cp n q0 (k .ret (fr_bbr_ctl_entries_15 q0)) := by kernel_rfl
def fr_bbr_ctl_entries_16 (q0 : Sctl) (v24 : Bool) : FF := [dT 2 ((tB v24) :: (dT 13 [])), dc, dT 4 ((.hdr 22) :: (sl 0 11 (ectl q0))), sl 11 11 (ectl q0) ++ (dT 5 [])]
theorem s_bbr_ctl_entries_17_t {R : Type} (cp : Nat → Nat → Bool) (n : Nat) (q0 : Sctl) (k : Ex → FF → Option R) : X cp n i_bbr_ctl_entries_5 (fr_bbr_ctl_entries_2 q0) k = s_bbr_ctl_entries_17 cp n q0 (fun v24 => k .ret (fr_bbr_ctl_entries_16 q0 v24)) := (show X cp n i_bbr_ctl_entries_5 (fr_bbr_ctl_entries_2 q0) k = X cp n i_bbr_ctl_entries_3 (fr_bbr_ctl_entries_2 q0) (seqT (X cp n) i_bbr_ctl_entries_4 k) from by kernel_rfl).trans ((show X cp n i_bbr_ctl_entries_3 (fr_bbr_ctl_entries_2 q0) (seqT (X cp n) i_bbr_ctl_entries_4 k) = s_bbr_ctl_entries_13 cp n q0 (X cp n i_bbr_ctl_entries_4 (fr_bbr_ctl_entries_8 q0) k) (k .ret (fr_bbr_ctl_entries_16 q0 false)) from (s_bbr_ctl_entries_13_t cp n q0 (seqT (X cp n) i_bbr_ctl_entries_4 k)).trans (by kernel_rfl)).trans (congrArg (fun q => s_bbr_ctl_entries_13 cp n q0 q (k .ret (fr_bbr_ctl_entries_16 q0 false))) ((s_bbr_ctl_entries_14_t cp n q0 k).trans (show s_bbr_ctl_entries_14 cp n q0 (k .ret (fr_bbr_ctl_entries_15 q0)) = s_bbr_ctl_entries_14 cp n q0 (k .ret (fr_bbr_ctl_entries_16 q0 true)) from by kernel_rfl))))
def fr_bbr_ctl_entries_18 (q0 : Sctl) (v25 : Bool) : FF := [dT 2 ((tB v25) :: (dT 13 [])), dc, dT 4 ((.hdr 22) :: (sl 0 11 (ectl q0))), sl 11 11 (ectl q0) ++ (dT 5 [])]
theorem s_bbr_ctl_entries_19_t {R : Type} (cp : Nat → Nat → Bool) (n : Nat) (q0 : Sctl) (k : Ex → FF → Option R) : X cp n i_bbr_ctl_entries_6 (fr_bbr_ctl_entries_2 q0) k = s_bbr_ctl_entries_19 cp n q0 (fun v25 => k .ret (fr_bbr_ctl_entries_18 q0 v25)) := ((fun c => (show X cp n (.seq (.fin (.reg g_bbr_ctl_entries_0) [2] []) (.seq (.seq (.fin (.reg g_bbr_ctl_entries_1) [5, 6, 7, 8, 9, 10] []) (.fin (.cond (.s 11) (.seq (.fin (.reg g_bbr_ctl_entries_2) [0, 11] []) (.ret)) (.skip)) [11] [])) c)) (fr_bbr_ctl_entries_2 q0) k = s_bbr_ctl_entries_1 cp n q0 (X cp n c (fr_bbr_ctl_entries_2 q0) k) (k .ret (fr_bbr_ctl_entries_18 q0 false)) from by kernel_rfl)) i_bbr_ctl_entries_5).trans (congrArg (fun q => s_bbr_ctl_entries_1 cp n q0 q (k .ret (fr_bbr_ctl_entries_18 q0 false))) ((s_bbr_ctl_entries_17_t cp n q0 k).trans (show s_bbr_ctl_entries_17 cp n q0 (fun v24 => k .ret (fr_bbr_ctl_entries_16 q0 v24)) = s_bbr_ctl_entries_17 cp n q0 (fun v24 => k .ret (fr_bbr_ctl_entries_18 q0 v24)) from by kernel_rfl)))
theorem run_bbr_ctl_entries {R : Type} (cp : Nat → Nat → Bool) (n : Nat) (q0 : Sctl) (k : Ret2 RW → Option R) : G_bbr_ctl_entries cp (n + 1) q0 (fun r0 r1 => k ⟨(tB r0), [(ectl r1)]⟩) = run2 U cp (callP cp n) n fn_bbr_ctl_entries [.ptr 36 0] [(ectl q0)] k := ((X_run (f := fn_bbr_ctl_entries) (av := [.ptr 36 0]) (cells := [(ectl q0)]) (code := i_bbr_ctl_entries_6) (fr := (fr_bbr_ctl_entries_2 q0)) (k := k) (by kernel_rfl) (fun K => by kernel_rfl)).trans ((s_bbr_ctl_entries_19_t cp n q0 (finK2 fn_bbr_ctl_entries k)).trans (by kernel_rfl))).symm
/-! tideway/bbr.Check -/
def fr_bbr_Check_2 (p0 : SCc) : FF := [dT 3 ((.ptr 232 0) :: (dT 12 [])), dc, dc, dc, dc, dc, dc, dc, dc, dc, dc, dc, dc, dc, dT 8 ((.hdr 22) :: (sl 0 7 (eCc p0))), sl 7 15 (eCc p0) ++ (dT 1 [])]
def fr_bbr_Check_4 (p0 : SCc) (v5 : Bool) : FF := [dT 3 ((.ptr 232 0) :: (tB v5) :: (dT 11 [])), dc, dc, dc, dc, dc, dc, dc, dc, dc, dc, dc, dc, dc, dT 8 ((.hdr 22) :: (sl 0 7 (eCc p0))), sl 7 15 (eCc p0) ++ (dT 1 [])]
def fr_bbr_Check_6 (p0 : SCc) (v5 v6 : Bool) : FF := [dT 3 ((.ptr 232 0) :: (tB v5) :: (tB v6) :: (dT 10 [])), dc, dc, dc, dc, dc, dc, dc, dc, dc, dc, dc, dc, dc, dT 8 ((.hdr 22) :: (sl 0 7 (eCc p0))), sl 7 15 (eCc p0) ++ (dT 1 [])]
def fr_bbr_Check_8 (p0 : SCc) (v5 v6 v8 : Bool) : FF := [dT 3 ((.ptr 232 0) :: (tB v5) :: (tB v6) :: (tB v8) :: (dT 9 [])), dc, dc, dc, dc, dc, dc, dc, dc, dc, dc, dc, dc, dc, dT 8 ((.hdr 22) :: (sl 0 7 (eCc p0))), sl 7 15 (eCc p0) ++ (dT 1 [])]
def fr_bbr_Check_10 (p0 : SCc) (v5 v6 v8 v13 : Bool) : FF := [dT 3 ((.ptr 232 0) :: (tB v5) :: (tB v6) :: (tB v8) :: (tB v13) :: (dT 8 [])), dc, dc, dc, dc, dc, dc, dc, dc, dc, dc, dc, dc, dc, dT 8 ((.hdr 22) :: (sl 0 7 (eCc p0))), sl 7 15 (eCc p0) ++ (dT 1 [])]
def fr_bbr_Check_12 (v16 : Int) : FF := [dT 2 ((tL v16) :: (dT 13 [])), dc, dc, dc, dc, dc, dc, dc, dc, dc, dc, dc, dc, dc, dc, dc]
theorem s_bbr_Check_11_t {R : Type} (cp : Nat → Nat → Bool) (n : Nat) (p0 : SCc) (v5 v6 v8 v13 : Bool) (k : Ex → FF → Option R) : X cp n i_bbr_Check_0 (fr_bbr_Check_10 p0 v5 v6 v8 v13) k = s_bbr_Check_11 cp n p0 v5 v6 v8 v13 (fun v16 => k .ret (fr_bbr_Check_12 v16)) := by kernel_rfl
def fr_bbr_Check_13 (v17 : Int) : FF := [dT 2 ((tL v17) :: (dT 13 [])), dc, dc, dc, dc, dc, dc, dc, dc, dc, dc, dc, dc, dc, dc, dc]
theorem s_bbr_Check_14_t {R : Type} (cp : Nat → Nat → Bool) (n : Nat) (p0 : SCc) (v5 v6 v8 : Bool) (k : Ex → FF → Option R) : X cp n i_bbr_Check_1 (fr_bbr_Check_8 p0 v5 v6 v8) k = s_bbr_Check_14 cp n p0 v5 v6 v8 (fun v17 => k .ret (fr_bbr_Check_13 v17)) := ((fun c => (show X cp n (.seq (.fin (.reg g_bbr_Check_5) [140, 141, 142, 143, 144, 145, 146, 147, 148, 149, 150, 151, 152, 153, 154, 155, 156, 157, 158, 159, 160, 161, 162, 163, 164, 165, 166, 167, 168, 169, 170, 171, 172, 173] []) c) (fr_bbr_Check_8 p0 v5 v6 v8) k = s_bbr_Check_9 cp n p0 v5 v6 v8 (fun v13 => X cp n c (fr_bbr_Check_10 p0 v5 v6 v8 v13) k) from by kernel_rfl)) i_bbr_Check_0).trans (congrArg (fun q => s_bbr_Check_9 cp n p0 v5 v6 v8 q) (funext fun v13 => (s_bbr_Check_11_t cp n p0 v5 v6 v8 v13 k).trans (show s_bbr_Check_11 cp n p0 v5 v6 v8 v13 (fun v16 => k .ret (fr_bbr_Check_12 v16)) = s_bbr_Check_11 cp n p0 v5 v6 v8 v13 (fun v16 => k .ret (fr_bbr_Check_13 v16)) from by kernel_rfl)))
def fr_bbr_Check_15 (v18 : Int) : FF := [dT 2 ((tL v18) :: (dT 13 [])), dc, dc, dc, dc, dc, dc, dc, dc, dc, dc, dc, dc, dc, dc, dc]
theorem s_bbr_Check_16_t {R : Type} (cp : Nat → Nat → Bool) (n : Nat) (p0 : SCc) (v5 v6 : Bool) (k : Ex → FF → Option R) : X cp n i_bbr_Check_2 (fr_bbr_Check_6 p0 v5 v6) k = s_bbr_Check_16 cp n p0 v5 v6 (fun v18 => k .ret (fr_bbr_Check_15 v18)) := ((fun c => (show X cp n (.seq (.fin (.reg g_bbr_Check_4) [108, 109, 110, 111, 112, 113, 114, 115, 116, 117, 118, 119, 120, 121, 122, 123, 124, 125, 126, 127, 128, 129, 130, 131, 132, 133, 134, 135, 136, 137, 138, 139] []) c) (fr_bbr_Check_6 p0 v5 v6) k = s_bbr_Check_7 cp n p0 v5 v6 (fun v8 => X cp n c (fr_bbr_Check_8 p0 v5 v6 v8) k) from by kernel_rfl)) i_bbr_Check_1).trans (congrArg (fun q => s_bbr_Check_7 cp n p0 v5 v6 q) (funext fun v8 => (s_bbr_Check_14_t cp n p0 v5 v6 v8 k).trans (show s_bbr_Check_14 cp n p0 v5 v6 v8 (fun v17 => k .ret (fr_bbr_Check_13 v17)) = s_bbr_Check_14 cp n p0 v5 v6 v8 (fun v17 => k .ret (fr_bbr_Check_15 v17)) from by kernel_rfl)))
def fr_bbr_Check_17 (v19 : Int) : FF := [dT 2 ((tL v19) :: (dT 13 [])), dc, dc, dc, dc, dc, dc, dc, dc, dc, dc, dc, dc, dc, dc, dc]
theorem s_bbr_Check_18_t {R : Type} (cp : Nat → Nat → Bool) (n : Nat) (p0 : SCc) (v5 : Bool) (k : Ex → FF → Option R) : X cp n i_bbr_Check_3 (fr_bbr_Check_4 p0 v5) k = s_bbr_Check_18 cp n p0 v5 (fun v19 => k .ret (fr_bbr_Check_17 v19)) := ((fun c => (show X cp n (.seq (.fin (.reg g_bbr_Check_3) [70, 71, 72, 73, 74, 75, 76, 77, 78, 79, 80, 81, 82, 83, 84, 85, 86, 87, 88, 89, 90, 91, 92, 93, 94, 95, 96, 97, 98, 99, 100, 101, 102, 103, 104, 105, 106, 107] []) c) (fr_bbr_Check_4 p0 v5) k = s_bbr_Check_5 cp n p0 v5 (fun v6 => X cp n c (fr_bbr_Check_6 p0 v5 v6) k) from by kernel_rfl)) i_bbr_Check_2).trans (congrArg (fun q => s_bbr_Check_5 cp n p0 v5 q) (funext fun v6 => (s_bbr_Check_16_t cp n p0 v5 v6 k).trans (show s_bbr_Check_16 cp n p0 v5 v6 (fun v18 => k .ret (fr_bbr_Check_15 v18)) = s_bbr_Check_16 cp n p0 v5 v6 (fun v18 => k .ret (fr_bbr_Check_17 v18)) from by kernel_rfl)))
def fr_bbr_Check_19 (v20 : Int) : FF := [dT 2 ((tL v20) :: (dT 13 [])), dc, dc, dc, dc, dc, dc, dc, dc, dc, dc, dc, dc, dc, dc, dc]
theorem s_bbr_Check_20_t {R : Type} (cp : Nat → Nat → Bool) (n : Nat) (p0 : SCc) (k : Ex → FF → Option R) : X cp n i_bbr_Check_4 (fr_bbr_Check_2 p0) k = s_bbr_Check_20 cp n p0 (fun v20 => k .ret (fr_bbr_Check_19 v20)) := ((fun c => (show X cp n (.seq (.fin (.reg g_bbr_Check_2) [11, 12, 13, 14, 15, 16, 17, 18, 19, 20, 21, 22, 23, 24, 25, 26, 27, 28, 29, 30, 31, 32, 33, 34, 35, 36, 37, 38, 39, 40, 41, 42, 43, 44, 45, 46, 47, 48, 49, 50, 51, 52, 53, 54, 55, 56, 57, 58, 59, 60, 61, 62, 63, 64, 65, 66, 67, 68, 69] []) c) (fr_bbr_Check_2 p0) k = s_bbr_Check_3 cp n p0 (fun v5 => X cp n c (fr_bbr_Check_4 p0 v5) k) from by kernel_rfl)) i_bbr_Check_3).trans (congrArg (fun q => s_bbr_Check_3 cp n p0 q) (funext fun v5 => (s_bbr_Check_18_t cp n p0 v5 k).trans (show s_bbr_Check_18 cp n p0 v5 (fun v19 => k .ret (fr_bbr_Check_17 v19)) = s_bbr_Check_18 cp n p0 v5 (fun v19 => k .ret (fr_bbr_Check_19 v19)) from by kernel_rfl)))
def fr_bbr_Check_21 (v21 : Int) : FF := [dT 2 ((tL v21) :: (dT 13 [])), dc, dc, dc, dc, dc, dc, dc, dc, dc, dc, dc, dc, dc, dc, dc]
def fr_bbr_Check_23 (p0 : SCc) : FF := [(.agg (eCc p0)) :: (dT 15 []), dc, dc, dc, dc, dc, dc, dc, dc, dc, dc, dc, dc, dc, dc, dc]
theorem s_bbr_Check_22_t {R : Type} (cp : Nat → Nat → Bool) (n : Nat) (p0 : SCc) (k : Ex → FF → Option R) : X cp n i_bbr_Check_5 (fr_bbr_Check_23 p0) k = s_bbr_Check_22 cp n p0 (fun v21 => k .ret (fr_bbr_Check_21 v21)) := ((fun c => (show X cp n (.seq (.fin (.reg g_bbr_Check_0) [0, 2] []) (.seq (.fin (.reg g_bbr_Check_1) [1, 8, 9, 10] [(209, 22)]) c)) (fr_bbr_Check_23 p0) k = s_bbr_Check_1 cp n p0 (X cp n c (fr_bbr_Check_2 p0) k) from by kernel_rfl)) i_bbr_Check_4).trans (congrArg (fun q => s_bbr_Check_1 cp n p0 q) ((s_bbr_Check_20_t cp n p0 k).trans (show s_bbr_Check_20 cp n p0 (fun v20 => k .ret (fr_bbr_Check_19 v20)) = s_bbr_Check_20 cp n p0 (fun v20 => k .ret (fr_bbr_Check_21 v20)) from by kernel_rfl)))
theorem run_bbr_Check {R : Type} (cp : Nat → Nat → Bool) (n : Nat) (p0 : SCc) (k : Ret2 RW → Option R) : G_bbr_Check cp (n + 1) p0 (fun r0 => k ⟨(tL r0), []⟩) = run2 U cp (callP cp n) n fn_bbr_Check [.agg (eCc p0)] [] k := ((X_run (f := fn_bbr_Check) (av := [.agg (eCc p0)]) (cells := []) (code := i_bbr_Check_5) (fr := (fr_bbr_Check_23 p0)) (k := k) (by kernel_rfl) (fun K => by kernel_rfl)).trans ((s_bbr_Check_22_t cp n p0 (finK2 fn_bbr_Check k)).trans (by kernel_rfl))).symm
/-! (*tideway/bbr.ctl).round -/
theorem run_bbr_ctl_round {R : Type} (cp : Nat → Nat → Bool) (n : Nat) (p1 : SSample) (q0 : Sctl) (k : Ret2 RW → Option R) : G_bbr_ctl_round cp (n + 1) p1 q0 (fun r0 r1 => k ⟨(tB r0), [(ectl r1)]⟩) = run2 U cp (callP cp n) n fn_bbr_ctl_round [.ptr 30 0, .agg (eSample p1)] [(ectl q0)] k := by kernel_rfl
/-! tideway/filter.Best -/
theorem run_filter_Best {R : Type} (cp : Nat → Nat → Bool) (n : Nat) (p0 : (List SEntry)) (k : Ret2 RW → Option R) : G_filter_Best cp (n + 1) p0 (fun r0 r1 => k ⟨.tup [(tL r0), (tB r1)], []⟩) = run2 U cp (callP cp n) n fn_filter_Best [.row false (.rEntry p0)] [] k := by kernel_rfl
/-! (*tideway/bbr.ctl).bandwidth -/
theorem run_bbr_ctl_bandwidth {R : Type} (cp : Nat → Nat → Bool) (n : Nat) (q0 : Sctl) (k : Ret2 RW → Option R) : G_bbr_ctl_bandwidth cp (n + 1) q0 (fun r0 r1 => k ⟨(tL r0), [(ectl r1)]⟩) = run2 U cp (callP cp n) n fn_bbr_ctl_bandwidth [.ptr 15 0] [(ectl q0)] k := by kernel_rfl
/-! tideway/filter.Put -/
def fr_filter_Put_2 (p0 : (List SEntry)) (p1 p2 p3 : Int) (p4 : Bool) (v37 : Int) : FF := [(.row false (.rEntry p0)) :: (tL p1) :: (tL p2) :: (tL p3) :: (tB p4) :: (dT 7 ((.ptr 91 0) :: (tL 0) :: (tL v37) :: (dT 1 []))), dc, dc, dc, dc, dT 11 ((.hdr 2) :: (tL p1) :: (tL p2) :: (dT 2 []))]
def fr_filter_Put_3 : FF := [dT 10 ((.row false (.rEntry [])) :: (tL 2) :: (dT 4 [])), dc, dc, dc, dc, dc]
def fr_filter_Put_5 (p0 : (List SEntry)) (p1 p2 p3 : Int) (p4 : Bool) (v37 v39 : Int) : FF := [(.row false (.rEntry p0)) :: (tL p1) :: (tL p2) :: (tL p3) :: (tB p4) :: (dT 7 ((.ptr 91 0) :: (tL v39) :: (tL v37) :: (dT 1 []))), dc, dc, dc, dc, dT 11 ((.hdr 2) :: (tL p1) :: (tL p2) :: (dT 2 []))]
def fr_filter_Put_6 (p0 : (List SEntry)) (p1 p2 : Int) (p4 : Bool) (v37 v38 : Int) : FF := [(.row false (.rEntry p0)) :: (dT 1 ((tL p2) :: (dT 1 ((tB p4) :: (dT 7 ((.ptr 91 0) :: (tL v38) :: (tL v37) :: (dT 1 []))))))), dc, dc, dc, dc, dT 11 ((.hdr 2) :: (tL p1) :: (tL p2) :: (dT 2 []))]
def fr_filter_Put_7 (p0 : (List SEntry)) (p1 p2 p3 : Int) (p4 : Bool) (v37 v38 : Int) : FF := [(.row false (.rEntry p0)) :: (tL p1) :: (tL p2) :: (tL p3) :: (tB p4) :: (dT 7 ((.ptr 91 0) :: (tL v38) :: (tL v37) :: (dT 1 []))), dc, dc, dc, dc, dT 11 ((.hdr 2) :: (tL p1) :: (tL p2) :: (dT 2 []))]
theorem s_filter_Put_4_t {R : Type} (cp : Nat → Nat → Bool) (n : Nat) (p0 : (List SEntry)) (p1 p2 p3 : Int) (p4 : Bool) (v37 v38 : Int) (k : Ex → FF → Option R) : X cp n i_filter_Put_0 (fr_filter_Put_7 p0 p1 p2 p3 p4 v37 v38) k = s_filter_Put_4 cp n p0 p1 p2 p3 p4 v37 v38 (fun v39 => k .norm (fr_filter_Put_5 p0 p1 p2 p3 p4 v37 v39)) (k (.exit 0) (fr_filter_Put_6 p0 p1 p2 p4 v37 v38)) := by kernel_rfl
def fr_filter_Put_8 (p0 : (List SEntry)) (p1 p2 : Int) (p4 : Bool) (v37 v40 : Int) : FF := [(.row false (.rEntry p0)) :: (dT 1 ((tL p2) :: (dT 1 ((tB p4) :: (dT 7 ((.ptr 91 0) :: (tL v40) :: (tL v37) :: (dT 1 []))))))), dc, dc, dc, dc, dT 11 ((.hdr 2) :: (tL p1) :: (tL p2) :: (dT 2 []))]
theorem l_filter_Put_9_t {R : Type} (cp : Nat → Nat → Bool) (n : Nat) : ∀ (m : Nat) (p0 : (List SEntry)) (p1 p2 p3 : Int) (p4 : Bool) (v37 v38 : Int) (k : Ex → FF → Option R), loopN2 (X cp n i_filter_Put_0) m (fr_filter_Put_7 p0 p1 p2 p3 p4 v37 v38) k = l_filter_Put_9 cp n m p0 p1 p2 p3 p4 v37 v38 (fun v40 => k (.exit 0) (fr_filter_Put_8 p0 p1 p2 p4 v37 v40))
  | 0, _, _, _, _, _, _, _, _ => rfl
  | m + 1, p0, p1, p2, p3, p4, v37, v38, k => (loopN2_succ (X cp n i_filter_Put_0) m (fr_filter_Put_7 p0 p1 p2 p3 p4 v37 v38) k).trans ((s_filter_Put_4_t cp n p0 p1 p2 p3 p4 v37 v38 (loopT (X cp n i_filter_Put_0) m k)).trans ((show s_filter_Put_4 cp n p0 p1 p2 p3 p4 v37 v38 (fun v39 => loopT (X cp n i_filter_Put_0) m k .norm (fr_filter_Put_5 p0 p1 p2 p3 p4 v37 v39)) (loopT (X cp n i_filter_Put_0) m k (.exit 0) (fr_filter_Put_6 p0 p1 p2 p4 v37 v38)) = s_filter_Put_4 cp n p0 p1 p2 p3 p4 v37 v38 (fun v39 => loopN2 (X cp n i_filter_Put_0) m (fr_filter_Put_7 p0 p1 p2 p3 p4 v37 v39) k) (k (.exit 0) (fr_filter_Put_8 p0 p1 p2 p4 v37 v38)) from by kernel_rfl).trans (congrArg (fun q => s_filter_Put_4 cp n p0 p1 p2 p3 p4 v37 v38 q (k (.exit 0) (fr_filter_Put_8 p0 p1 p2 p4 v37 v38))) (funext fun v39 => l_filter_Put_9_t cp n m p0 p1 p2 p3 p4 v37 v39 k))))
theorem s_filter_Put_10_t {R : Type} (cp : Nat → Nat → Bool) (n : Nat) (p0 : (List SEntry)) (p1 p2 p3 : Int) (p4 : Bool) (v37 : Int) (k : Ex → FF → Option R) : X cp n i_filter_Put_1 (fr_filter_Put_2 p0 p1 p2 p3 p4 v37) k = s_filter_Put_10 cp n p0 p1 p2 p3 p4 v37 (fun v40 => k (.exit 0) (fr_filter_Put_8 p0 p1 p2 p4 v37 v40)) := (show X cp n i_filter_Put_1 (fr_filter_Put_2 p0 p1 p2 p3 p4 v37) k = loopN2 (X cp n i_filter_Put_0) n (fr_filter_Put_7 p0 p1 p2 p3 p4 v37 0) k from by kernel_rfl).trans (l_filter_Put_9_t cp n n p0 p1 p2 p3 p4 v37 0 k)
def fr_filter_Put_11 (p0 : (List SEntry)) (p1 p2 : Int) (p4 : Bool) (v37 v41 : Int) : FF := [(.row false (.rEntry p0)) :: (dT 1 ((tL p2) :: (dT 1 ((tB p4) :: (dT 7 ((.ptr 91 0) :: (tL v41) :: (tL v37) :: (dT 1 []))))))), dc, dc, dc, dc, dT 11 ((.hdr 2) :: (tL p1) :: (tL p2) :: (dT 2 []))]
theorem s_filter_Put_12_t {R : Type} (cp : Nat → Nat → Bool) (n : Nat) (p0 : (List SEntry)) (p1 p2 p3 : Int) (p4 : Bool) (v37 : Int) (k : Ex → FF → Option R) : X cp n i_filter_Put_2 (fr_filter_Put_2 p0 p1 p2 p3 p4 v37) k = s_filter_Put_12 cp n p0 p1 p2 p3 p4 v37 (fun v41 => k .norm (fr_filter_Put_11 p0 p1 p2 p4 v37 v41)) := (show X cp n i_filter_Put_2 (fr_filter_Put_2 p0 p1 p2 p3 p4 v37) k = X cp n i_filter_Put_1 (fr_filter_Put_2 p0 p1 p2 p3 p4 v37) (blkT 0 k) from by kernel_rfl).trans ((s_filter_Put_10_t cp n p0 p1 p2 p3 p4 v37 (blkT 0 k)).trans (by kernel_rfl))
def fr_filter_Put_14 (p0 : (List SEntry)) (p1 p2 : Int) (p4 : Bool) (v41 v44 : Int) : FF := [(.row false (.rEntry p0)) :: (dT 1 ((tL p2) :: (dT 1 ((tB p4) :: (dT 7 ((.ptr 91 0) :: (tL v41) :: (tL v44) :: (dT 1 []))))))), dc, dc, dc, dc, dT 11 ((.hdr 2) :: (tL p1) :: (tL p2) :: (dT 2 []))]
def fr_filter_Put_15 (p0 : (List SEntry)) (p1 p2 v41 v42 : Int) : FF := [(.row false (.rEntry p0)) :: (dT 11 ((.ptr 91 0) :: (tL v41) :: (tL v42) :: (dT 1 []))), dc, dc, dc, dc, dT 11 ((.hdr 2) :: (tL p1) :: (tL p2) :: (dT 2 []))]
def fr_filter_Put_16 (p0 : (List SEntry)) (p1 p2 : Int) (p4 : Bool) (v41 v42 : Int) : FF := [(.row false (.rEntry p0)) :: (dT 1 ((tL p2) :: (dT 1 ((tB p4) :: (dT 7 ((.ptr 91 0) :: (tL v41) :: (tL v42) :: (dT 1 []))))))), dc, dc, dc, dc, dT 11 ((.hdr 2) :: (tL p1) :: (tL p2) :: (dT 2 []))]
theorem s_filter_Put_13_t {R : Type} (cp : Nat → Nat → Bool) (n : Nat) (p0 : (List SEntry)) (p1 p2 : Int) (p4 : Bool) (v41 v42 : Int) (k : Ex → FF → Option R) : X cp n i_filter_Put_3 (fr_filter_Put_16 p0 p1 p2 p4 v41 v42) k = s_filter_Put_13 cp n p0 p1 p2 p4 v41 v42 (fun v44 => k .norm (fr_filter_Put_14 p0 p1 p2 p4 v41 v44)) (k (.exit 2) (fr_filter_Put_15 p0 p1 p2 v41 v42)) := by kernel_rfl
def fr_filter_Put_17 (p0 : (List SEntry)) (p1 p2 v41 v45 : Int) : FF := [(.row false (.rEntry p0)) :: (dT 11 ((.ptr 91 0) :: (tL v41) :: (tL v45) :: (dT 1 []))), dc, dc, dc, dc, dT 11 ((.hdr 2) :: (tL p1) :: (tL p2) :: (dT 2 []))]
theorem l_filter_Put_18_t {R : Type} (cp : Nat → Nat → Bool) (n : Nat) : ∀ (m : Nat) (p0 : (List SEntry)) (p1 p2 : Int) (p4 : Bool) (v41 v42 : Int) (k : Ex → FF → Option R), loopN2 (X cp n i_filter_Put_3) m (fr_filter_Put_16 p0 p1 p2 p4 v41 v42) k = l_filter_Put_18 cp n m p0 p1 p2 p4 v41 v42 (fun v45 => k (.exit 2) (fr_filter_Put_17 p0 p1 p2 v41 v45))
  | 0, _, _, _, _, _, _, _ => rfl
  | m + 1, p0, p1, p2, p4, v41, v42, k => (loopN2_succ (X cp n i_filter_Put_3) m (fr_filter_Put_16 p0 p1 p2 p4 v41 v42) k).trans ((s_filter_Put_13_t cp n p0 p1 p2 p4 v41 v42 (loopT (X cp n i_filter_Put_3) m k)).trans ((show s_filter_Put_13 cp n p0 p1 p2 p4 v41 v42 (fun v44 => loopT (X cp n i_filter_Put_3) m k .norm (fr_filter_Put_14 p0 p1 p2 p4 v41 v44)) (loopT (X cp n i_filter_Put_3) m k (.exit 2) (fr_filter_Put_15 p0 p1 p2 v41 v42)) = s_filter_Put_13 cp n p0 p1 p2 p4 v41 v42 (fun v44 => loopN2 (X cp n i_filter_Put_3) m (fr_filter_Put_16 p0 p1 p2 p4 v41 v44) k) (k (.exit 2) (fr_filter_Put_17 p0 p1 p2 v41 v42)) from by kernel_rfl).trans (congrArg (fun q => s_filter_Put_13 cp n p0 p1 p2 p4 v41 v42 q (k (.exit 2) (fr_filter_Put_17 p0 p1 p2 v41 v42))) (funext fun v44 => l_filter_Put_18_t cp n m p0 p1 p2 p4 v41 v44 k))))
theorem s_filter_Put_19_t {R : Type} (cp : Nat → Nat → Bool) (n : Nat) (p0 : (List SEntry)) (p1 p2 : Int) (p4 : Bool) (v37 v41 : Int) (k : Ex → FF → Option R) : X cp n i_filter_Put_4 (fr_filter_Put_11 p0 p1 p2 p4 v37 v41) k = s_filter_Put_19 cp n p0 p1 p2 p4 v37 v41 (fun v45 => k (.exit 2) (fr_filter_Put_17 p0 p1 p2 v41 v45)) := (show X cp n i_filter_Put_4 (fr_filter_Put_11 p0 p1 p2 p4 v37 v41) k = loopN2 (X cp n i_filter_Put_3) n (fr_filter_Put_16 p0 p1 p2 p4 v41 v37) k from by kernel_rfl).trans (l_filter_Put_18_t cp n n p0 p1 p2 p4 v41 v37 k)
def fr_filter_Put_20 (p0 : (List SEntry)) (p1 p2 v41 v46 : Int) : FF := [(.row false (.rEntry p0)) :: (dT 11 ((.ptr 91 0) :: (tL v41) :: (tL v46) :: (dT 1 []))), dc, dc, dc, dc, dT 11 ((.hdr 2) :: (tL p1) :: (tL p2) :: (dT 2 []))]
theorem s_filter_Put_21_t {R : Type} (cp : Nat → Nat → Bool) (n : Nat) (p0 : (List SEntry)) (p1 p2 : Int) (p4 : Bool) (v37 v41 : Int) (k : Ex → FF → Option R) : X cp n i_filter_Put_5 (fr_filter_Put_11 p0 p1 p2 p4 v37 v41) k = s_filter_Put_21 cp n p0 p1 p2 p4 v37 v41 (fun v46 => k .norm (fr_filter_Put_20 p0 p1 p2 v41 v46)) := (show X cp n i_filter_Put_5 (fr_filter_Put_11 p0 p1 p2 p4 v37 v41) k = X cp n i_filter_Put_4 (fr_filter_Put_11 p0 p1 p2 p4 v37 v41) (blkT 2 k) from by kernel_rfl).trans ((s_filter_Put_19_t cp n p0 p1 p2 p4 v37 v41 (blkT 2 k)).trans (by kernel_rfl))
def fr_filter_Put_23 (v47 : (List SEntry)) : FF := [dT 10 ((.row false (.rEntry v47)) :: (tL 0) :: (dT 4 [])), dc, dc, dc, dc, dc]
theorem s_filter_Put_22_t {R : Type} (cp : Nat → Nat → Bool) (n : Nat) (p0 : (List SEntry)) (p1 p2 v41 v46 : Int) (k : Ex → FF → Option R) : X cp n i_filter_Put_6 (fr_filter_Put_20 p0 p1 p2 v41 v46) k = s_filter_Put_22 cp n p0 p1 p2 v41 v46 (fun v47 => k .ret (fr_filter_Put_23 v47)) := by kernel_rfl
def fr_filter_Put_24 (v48 : (List SEntry)) : FF := [dT 10 ((.row false (.rEntry v48)) :: (tL 0) :: (dT 4 [])), dc, dc, dc, dc, dc]
theorem s_filter_Put_25_t {R : Type} (cp : Nat → Nat → Bool) (n : Nat) (p0 : (List SEntry)) (p1 p2 : Int) (p4 : Bool) (v37 v41 : Int) (k : Ex → FF → Option R) : X cp n i_filter_Put_7 (fr_filter_Put_11 p0 p1 p2 p4 v37 v41) k = s_filter_Put_25 cp n p0 p1 p2 p4 v37 v41 (fun v48 => k .ret (fr_filter_Put_24 v48)) := (show X cp n i_filter_Put_7 (fr_filter_Put_11 p0 p1 p2 p4 v37 v41) k = X cp n i_filter_Put_5 (fr_filter_Put_11 p0 p1 p2 p4 v37 v41) (seqT (X cp n) i_filter_Put_6 k) from by kernel_rfl).trans ((show X cp n i_filter_Put_5 (fr_filter_Put_11 p0 p1 p2 p4 v37 v41) (seqT (X cp n) i_filter_Put_6 k) = s_filter_Put_21 cp n p0 p1 p2 p4 v37 v41 (fun v46 => X cp n i_filter_Put_6 (fr_filter_Put_20 p0 p1 p2 v41 v46) k) from (s_filter_Put_21_t cp n p0 p1 p2 p4 v37 v41 (seqT (X cp n) i_filter_Put_6 k)).trans (by kernel_rfl)).trans (congrArg (fun q => s_filter_Put_21 cp n p0 p1 p2 p4 v37 v41 q) (funext fun v46 => (s_filter_Put_22_t cp n p0 p1 p2 v41 v46 k).trans (show s_filter_Put_22 cp n p0 p1 p2 v41 v46 (fun v47 => k .ret (fr_filter_Put_23 v47)) = s_filter_Put_22 cp n p0 p1 p2 v41 v46 (fun v47 => k .ret (fr_filter_Put_24 v47)) from by kernel_rfl))))
def fr_filter_Put_26 (v49 : (List SEntry)) : FF := [dT 10 ((.row false (.rEntry v49)) :: (tL 0) :: (dT 4 [])), dc, dc, dc, dc, dc]
theorem s_filter_Put_27_t {R : Type} (cp : Nat → Nat → Bool) (n : Nat) (p0 : (List SEntry)) (p1 p2 p3 : Int) (p4 : Bool) (v37 : Int) (k : Ex → FF → Option R) : X cp n i_filter_Put_8 (fr_filter_Put_2 p0 p1 p2 p3 p4 v37) k = s_filter_Put_27 cp n p0 p1 p2 p3 p4 v37 (fun v49 => k .ret (fr_filter_Put_26 v49)) := (show X cp n i_filter_Put_8 (fr_filter_Put_2 p0 p1 p2 p3 p4 v37) k = X cp n i_filter_Put_2 (fr_filter_Put_2 p0 p1 p2 p3 p4 v37) (seqT (X cp n) i_filter_Put_7 k) from by kernel_rfl).trans ((show X cp n i_filter_Put_2 (fr_filter_Put_2 p0 p1 p2 p3 p4 v37) (seqT (X cp n) i_filter_Put_7 k) = s_filter_Put_12 cp n p0 p1 p2 p3 p4 v37 (fun v41 => X cp n i_filter_Put_7 (fr_filter_Put_11 p0 p1 p2 p4 v37 v41) k) from (s_filter_Put_12_t cp n p0 p1 p2 p3 p4 v37 (seqT (X cp n) i_filter_Put_7 k)).trans (by kernel_rfl)).trans (congrArg (fun q => s_filter_Put_12 cp n p0 p1 p2 p3 p4 v37 q) (funext fun v41 => (s_filter_Put_25_t cp n p0 p1 p2 p4 v37 v41 k).trans (show s_filter_Put_25 cp n p0 p1 p2 p4 v37 v41 (fun v48 => k .ret (fr_filter_Put_24 v48)) = s_filter_Put_25 cp n p0 p1 p2 p4 v37 v41 (fun v48 => k .ret (fr_filter_Put_26 v48)) from by kernel_rfl))))
def fr_filter_Put_28 (v50 : (List SEntry)) (v51 : Int) : FF := [dT 10 ((.row false (.rEntry v50)) :: (tL v51) :: (dT 4 [])), dc, dc, dc, dc, dc]
def fr_filter_Put_30 (p0 : (List SEntry)) (p1 p2 p3 : Int) (p4 : Bool) : FF := [(.row false (.rEntry p0)) :: (tL p1) :: (tL p2) :: (tL p3) :: (tB p4) :: (dT 11 []), dc, dc, dc, dc, dc]
theorem s_filter_Put_29_t {R : Type} (cp : Nat → Nat → Bool) (n : Nat) (p0 : (List SEntry)) (p1 p2 p3 : Int) (p4 : Bool) (k : Ex → FF → Option R) : X cp n i_filter_Put_9 (fr_filter_Put_30 p0 p1 p2 p3 p4) k = s_filter_Put_29 cp n p0 p1 p2 p3 p4 (fun v50 v51 => k .ret (fr_filter_Put_28 v50 v51)) := ((fun c => (show X cp n (.seq (.fin (.reg g_filter_Put_0) [10, 11] []) (.seq (.fin (.reg g_filter_Put_1) [15, 16, 17] []) (.seq (.seq (.fin (.reg g_filter_Put_2) [18, 19, 20, 21, 22, 23, 24, 25, 26, 27, 28, 29, 30, 31, 32, 33, 34, 35, 36, 37, 38, 39, 40, 41, 42, 43, 44, 45, 46, 47] []) (.fin (.cond (.s 48) (.seq (.fin (.reg g_filter_Put_3) [0, 1, 2, 3, 4, 12, 48] [(91, 2)]) (.ret)) (.skip)) [48] [])) (.seq (.fin (.reg g_filter_Put_4) [49, 50] []) c)))) (fr_filter_Put_30 p0 p1 p2 p3 p4) k = s_filter_Put_1 cp n p0 p1 p2 p3 p4 (fun v37 => X cp n c (fr_filter_Put_2 p0 p1 p2 p3 p4 v37) k) (k .ret (fr_filter_Put_28 [] 2)) from by kernel_rfl)) i_filter_Put_8).trans (congrArg (fun q => s_filter_Put_1 cp n p0 p1 p2 p3 p4 q (k .ret (fr_filter_Put_28 [] 2))) (funext fun v37 => (s_filter_Put_27_t cp n p0 p1 p2 p3 p4 v37 k).trans (show s_filter_Put_27 cp n p0 p1 p2 p3 p4 v37 (fun v49 => k .ret (fr_filter_Put_26 v49)) = s_filter_Put_27 cp n p0 p1 p2 p3 p4 v37 (fun v49 => k .ret (fr_filter_Put_28 v49 0)) from by kernel_rfl)))
theorem run_filter_Put {R : Type} (cp : Nat → Nat → Bool) (n : Nat) (p0 : (List SEntry)) (p1 p2 p3 : Int) (p4 : Bool) (k : Ret2 RW → Option R) : G_filter_Put cp (n + 1) p0 p1 p2 p3 p4 (fun r0 r1 => k ⟨.tup [.row false (.rEntry r0), (tL r1)], []⟩) = run2 U cp (callP cp n) n fn_filter_Put [.row false (.rEntry p0), (tL p1), (tL p2), (tL p3), (tB p4)] [] k := ((X_run (f := fn_filter_Put) (av := [.row false (.rEntry p0), (tL p1), (tL p2), (tL p3), (tB p4)]) (cells := []) (code := i_filter_Put_9) (fr := (fr_filter_Put_30 p0 p1 p2 p3 p4)) (k := k) (by kernel_rfl) (fun K => by kernel_rfl)).trans ((s_filter_Put_29_t cp n p0 p1 p2 p3 p4 (finK2 fn_filter_Put k)).trans (by kernel_rfl))).symm
/-! (*tideway/bbr.ctl).speed -/
def fr_bbr_ctl_speed_2 (q0 : Sctl) (v31 : Int) : FF := [(.ptr 74 0) :: (dT 3 ((tL v31) :: (.row false (.rEntry q0.xCc_Bw)) :: (dT 10 []))), dc, dc, dc, dT 10 ((.hdr 22) :: (sl 0 5 (ectl q0))), sl 5 16 (ectl q0), sl 21 1 (ectl q0) ++ (dT 15 [])]
def fr_bbr_ctl_speed_3 (q0 : Sctl) : FF := [dc, dc, dc, dc, dT 10 ((.hdr 22) :: (sl 0 5 (ectl q0))), sl 5 16 (ectl q0), sl 21 1 (ectl q0) ++ (dT 15 [])]
def fr_bbr_ctl_speed_5 (q0 : Sctl) (v38 : (List SEntry)) : FF := [dc, dc, dc, dc, dT 10 ([.hdr 22, (tL q0.xCc_Kind), (tL q0.xCc_Mss), (tL q0.xCc_Cwnd), (tL q0.xCc_Ssthresh), (tL q0.xCc_Acc)]), [(tL q0.xCc_Wmax), (tL q0.xCc_Epoch), (tL q0.xCc_K), (tL q0.xCc_West), (tL q0.xCc_Start), (tL q0.xCc_Mode), .row false (.rEntry v38), (tL q0.xCc_MinRtt), (tL q0.xCc_MinAt), (tL q0.xCc_Round), (tL q0.xCc_NextAt), (tL q0.xCc_Full), (tL q0.xCc_FullN), (tL q0.xCc_Phase), (tL q0.xCc_PhaseAt), (tL q0.xCc_DoneAt)], (tL q0.xCc_Prior) :: (dT 15 [])]
theorem s_bbr_ctl_speed_4_t {R : Type} (cp : Nat → Nat → Bool) (n : Nat) (q0 : Sctl) (v31 : Int) (k : Ex → FF → Option R) : X cp n i_bbr_ctl_speed_0 (fr_bbr_ctl_speed_2 q0 v31) k = s_bbr_ctl_speed_4 cp n q0 v31 (fun v38 => k .norm (fr_bbr_ctl_speed_5 q0 v38)) := by kernel_rfl
def fr_bbr_ctl_speed_6 (q0 : Sctl) (v39 : (List SEntry)) : FF := [dc, dc, dc, dc, dT 10 ([.hdr 22, (tL q0.xCc_Kind), (tL q0.xCc_Mss), (tL q0.xCc_Cwnd), (tL q0.xCc_Ssthresh), (tL q0.xCc_Acc)]), [(tL q0.xCc_Wmax), (tL q0.xCc_Epoch), (tL q0.xCc_K), (tL q0.xCc_West), (tL q0.xCc_Start), (tL q0.xCc_Mode), .row false (.rEntry v39), (tL q0.xCc_MinRtt), (tL q0.xCc_MinAt), (tL q0.xCc_Round), (tL q0.xCc_NextAt), (tL q0.xCc_Full), (tL q0.xCc_FullN), (tL q0.xCc_Phase), (tL q0.xCc_PhaseAt), (tL q0.xCc_DoneAt)], (tL q0.xCc_Prior) :: (dT 15 [])]
def fr_bbr_ctl_speed_8 (p1 : SSample) (q0 : Sctl) : FF := [(.ptr 74 0) :: (.agg (eSample p1)) :: (dT 14 []), dc, dc, dc, dT 10 ((.hdr 22) :: (sl 0 5 (ectl q0))), sl 5 16 (ectl q0), sl 21 1 (ectl q0) ++ (dT 15 [])]
theorem s_bbr_ctl_speed_7_t {R : Type} (cp : Nat → Nat → Bool) (n : Nat) (p1 : SSample) (q0 : Sctl) (k : Ex → FF → Option R) : X cp n i_bbr_ctl_speed_1 (fr_bbr_ctl_speed_8 p1 q0) k = s_bbr_ctl_speed_7 cp n p1 q0 (fun v39 => k .norm (fr_bbr_ctl_speed_6 q0 v39)) (k .ret (fr_bbr_ctl_speed_3 q0)) := ((fun c => (show X cp n (.seq (.fin (.reg g_bbr_ctl_speed_0) [1] []) (.seq (.fin (.reg g_bbr_ctl_speed_1) [7, 8, 9] []) (.seq (.seq (.fin (.reg g_bbr_ctl_speed_2) [3, 10, 11, 12, 13, 14, 15, 16, 17, 18, 19, 20] [(97, 8)]) (.fin (.cond (.s 21) (.clr [0, 4, 21] [] (.ret)) (.skip)) [21] [])) (.seq (.fin (.reg g_bbr_ctl_speed_3) [22, 23, 24, 25, 26] []) c)))) (fr_bbr_ctl_speed_8 p1 q0) k = s_bbr_ctl_speed_1 cp n p1 q0 (fun v31 => X cp n c (fr_bbr_ctl_speed_2 q0 v31) k) (k .ret (fr_bbr_ctl_speed_3 q0)) from by kernel_rfl)) i_bbr_ctl_speed_0).trans (congrArg (fun q => s_bbr_ctl_speed_1 cp n p1 q0 q (k .ret (fr_bbr_ctl_speed_3 q0))) (funext fun v31 => (s_bbr_ctl_speed_4_t cp n q0 v31 k).trans (show s_bbr_ctl_speed_4 cp n q0 v31 (fun v38 => k .norm (fr_bbr_ctl_speed_5 q0 v38)) = s_bbr_ctl_speed_4 cp n q0 v31 (fun v38 => k .norm (fr_bbr_ctl_speed_6 q0 v38)) from by kernel_rfl)))
theorem run_bbr_ctl_speed {R : Type} (cp : Nat → Nat → Bool) (n : Nat) (p1 : SSample) (q0 : Sctl) (k : Ret2 RW → Option R) : G_bbr_ctl_speed cp (n + 1) p1 q0 (fun r0 => k ⟨.tup [], [(ectl r0)]⟩) = run2 U cp (callP cp n) n fn_bbr_ctl_speed [.ptr 74 0, .agg (eSample p1)] [(ectl q0)] k := ((X_run (f := fn_bbr_ctl_speed) (av := [.ptr 74 0, .agg (eSample p1)]) (cells := [(ectl q0)]) (code := i_bbr_ctl_speed_1) (fr := (fr_bbr_ctl_speed_8 p1 q0)) (k := k) (by kernel_rfl) (fun K => by kernel_rfl)).trans ((s_bbr_ctl_speed_7_t cp n p1 q0 (finK2 fn_bbr_ctl_speed k)).trans (by kernel_rfl))).symm
/-! (*tideway/bbr.ctl).shortest -/
theorem run_bbr_ctl_shortest {R : Type} (cp : Nat → Nat → Bool) (n : Nat) (p1 : SSample) (q0 : Sctl) (k : Ret2 RW → Option R) : G_bbr_ctl_shortest cp (n + 1) p1 q0 (fun r0 r1 => k ⟨(tB r0), [(ectl r1)]⟩) = run2 U cp (callP cp n) n fn_bbr_ctl_shortest [.ptr 60 0, .agg (eSample p1)] [(ectl q0)] k := by kernel_rfl
/-! (*tideway/bbr.ctl).full -/
theorem run_bbr_ctl_full {R : Type} (cp : Nat → Nat → Bool) (n : Nat) (q0 : Sctl) (k : Ret2 RW → Option R) : G_bbr_ctl_full cp (n + 1) q0 (fun r0 => k ⟨.tup [], [(ectl r0)]⟩) = run2 U cp (callP cp n) n fn_bbr_ctl_full [.ptr 48 0] [(ectl q0)] k := by kernel_rfl
/-! math/bits.Mul64 -/
theorem run_math_bits_Mul64 {R : Type} (cp : Nat → Nat → Bool) (n : Nat) (p0 p1 : Int) (k : Ret2 RW → Option R) : G_math_bits_Mul64 cp (n + 1) p0 p1 (fun r0 r1 => k ⟨.tup [(tI .u64 r0), (tI .u64 r1)], []⟩) = run2 U cp (callP cp n) n fn_math_bits_Mul64 [(tI .u64 p0), (tI .u64 p1)] [] k := by kernel_rfl
/-! math/bits.Len64 -/
theorem run_math_bits_Len64 {R : Type} (cp : Nat → Nat → Bool) (n : Nat) (p0 : Int) (k : Ret2 RW → Option R) : G_math_bits_Len64 cp (n + 1) p0 (fun r0 => k ⟨(tL r0), []⟩) = run2 U cp (callP cp n) n fn_math_bits_Len64 [(tI .u64 p0)] [] k := by kernel_rfl
/-! math/bits.LeadingZeros64 -/
theorem run_math_bits_LeadingZeros64 {R : Type} (cp : Nat → Nat → Bool) (n : Nat) (p0 : Int) (k : Ret2 RW → Option R) : G_math_bits_LeadingZeros64 cp (n + 1) p0 (fun r0 => k ⟨(tL r0), []⟩) = run2 U cp (callP cp n) n fn_math_bits_LeadingZeros64 [(tI .u64 p0)] [] k := by kernel_rfl
/-! math/bits.Div64 -/
def fr_math_bits_Div64_2 (v41 v42 v43 v44 v45 v46 v47 v48 v49 : Int) : FF := [dT 2 ((tI .u64 v41) :: (dT 5 ((tI .u64 v42) :: (tI .u64 v43) :: (tI .u64 v44) :: (tI .u64 v45) :: (dT 1 ([(tI .u64 v46), (tI .u64 v47), (tI .u64 v48)]))))), (tI .u64 v49) :: (dT 15 []), dc, dc, dc, dc, dc, dc, dc]
def fr_math_bits_Div64_3 (v50 v51 : Int) : FF := [dT 6 ((tI .u64 v50) :: (tI .u64 v51) :: (dT 8 [])), dc, dc, dc, dc, dc, dc, dc, dc]
def fr_math_bits_Div64_5 (v41 v42 v43 v44 v45 v46 v47 v54 v55 : Int) : FF := [dT 2 ((tI .u64 v41) :: (dT 5 ((tI .u64 v42) :: (tI .u64 v43) :: (tI .u64 v44) :: (tI .u64 v45) :: (dT 1 ([(tI .u64 v46), (tI .u64 v47), (tI .u64 v54)]))))), (tI .u64 v55) :: (dT 15 []), dc, dc, dc, dc, dc, dc, dc]
def fr_math_bits_Div64_6 (v41 v42 v43 v44 v45 v46 v47 v56 : Int) : FF := [dT 2 ((tI .u64 v41) :: (dT 5 ((tI .u64 v42) :: (tI .u64 v43) :: (tI .u64 v44) :: (tI .u64 v45) :: (dT 1 ([(tI .u64 v46), (tI .u64 v47), (tI .u64 v56)]))))), dc, dc, dc, dc, dc, dc, dc, dc]
def fr_math_bits_Div64_7 (v41 v42 v43 v44 v45 v46 v47 v52 v53 : Int) : FF := [dT 2 ((tI .u64 v41) :: (dT 5 ((tI .u64 v42) :: (tI .u64 v43) :: (tI .u64 v44) :: (tI .u64 v45) :: (dT 1 ([(tI .u64 v46), (tI .u64 v47), (tI .u64 v52)]))))), (tI .u64 v53) :: (dT 15 []), dc, dc, dc, dc, dc, dc, dc]
theorem s_math_bits_Div64_4_t {R : Type} (cp : Nat → Nat → Bool) (n : Nat) (v41 v42 v43 v44 v45 v46 v47 v52 v53 : Int) (k : Ex → FF → Option R) : X cp n i_math_bits_Div64_0 (fr_math_bits_Div64_7 v41 v42 v43 v44 v45 v46 v47 v52 v53) k = s_math_bits_Div64_4 cp n v41 v42 v43 v44 v45 v46 v47 v52 v53 (fun v54 v55 => k .norm (fr_math_bits_Div64_5 v41 v42 v43 v44 v45 v46 v47 v54 v55)) (fun v56 => k (.exit 0) (fr_math_bits_Div64_6 v41 v42 v43 v44 v45 v46 v47 v56)) := by kernel_rfl
def fr_math_bits_Div64_8 (v41 v42 v43 v44 v45 v46 v47 v57 : Int) : FF := [dT 2 ((tI .u64 v41) :: (dT 5 ((tI .u64 v42) :: (tI .u64 v43) :: (tI .u64 v44) :: (tI .u64 v45) :: (dT 1 ([(tI .u64 v46), (tI .u64 v47), (tI .u64 v57)]))))), dc, dc, dc, dc, dc, dc, dc, dc]
theorem l_math_bits_Div64_9_t {R : Type} (cp : Nat → Nat → Bool) (n : Nat) : ∀ (m : Nat) (v41 v42 v43 v44 v45 v46 v47 v52 v53 : Int) (k : Ex → FF → Option R), loopN2 (X cp n i_math_bits_Div64_0) m (fr_math_bits_Div64_7 v41 v42 v43 v44 v45 v46 v47 v52 v53) k = l_math_bits_Div64_9 cp n m v41 v42 v43 v44 v45 v46 v47 v52 v53 (fun v57 => k (.exit 0) (fr_math_bits_Div64_8 v41 v42 v43 v44 v45 v46 v47 v57))
  | 0, _, _, _, _, _, _, _, _, _, _ => rfl
  | m + 1, v41, v42, v43, v44, v45, v46, v47, v52, v53, k => (loopN2_succ (X cp n i_math_bits_Div64_0) m (fr_math_bits_Div64_7 v41 v42 v43 v44 v45 v46 v47 v52 v53) k).trans ((s_math_bits_Div64_4_t cp n v41 v42 v43 v44 v45 v46 v47 v52 v53 (loopT (X cp n i_math_bits_Div64_0) m k)).trans ((show s_math_bits_Div64_4 cp n v41 v42 v43 v44 v45 v46 v47 v52 v53 (fun v54 v55 => loopT (X cp n i_math_bits_Div64_0) m k .norm (fr_math_bits_Div64_5 v41 v42 v43 v44 v45 v46 v47 v54 v55)) (fun v56 => loopT (X cp n i_math_bits_Div64_0) m k (.exit 0) (fr_math_bits_Div64_6 v41 v42 v43 v44 v45 v46 v47 v56)) = s_math_bits_Div64_4 cp n v41 v42 v43 v44 v45 v46 v47 v52 v53 (fun v54 v55 => loopN2 (X cp n i_math_bits_Div64_0) m (fr_math_bits_Div64_7 v41 v42 v43 v44 v45 v46 v47 v54 v55) k) (fun v56 => k (.exit 0) (fr_math_bits_Div64_8 v41 v42 v43 v44 v45 v46 v47 v56)) from by kernel_rfl).trans (congrArg (fun q => s_math_bits_Div64_4 cp n v41 v42 v43 v44 v45 v46 v47 v52 v53 q (fun v56 => k (.exit 0) (fr_math_bits_Div64_8 v41 v42 v43 v44 v45 v46 v47 v56))) (funext fun v54 => funext fun v55 => l_math_bits_Div64_9_t cp n m v41 v42 v43 v44 v45 v46 v47 v54 v55 k))))
theorem s_math_bits_Div64_10_t {R : Type} (cp : Nat → Nat → Bool) (n : Nat) (v41 v42 v43 v44 v45 v46 v47 v48 v49 : Int) (k : Ex → FF → Option R) : X cp n i_math_bits_Div64_1 (fr_math_bits_Div64_2 v41 v42 v43 v44 v45 v46 v47 v48 v49) k = s_math_bits_Div64_10 cp n v41 v42 v43 v44 v45 v46 v47 v48 v49 (fun v57 => k (.exit 0) (fr_math_bits_Div64_8 v41 v42 v43 v44 v45 v46 v47 v57)) := (show X cp n i_math_bits_Div64_1 (fr_math_bits_Div64_2 v41 v42 v43 v44 v45 v46 v47 v48 v49) k = loopN2 (X cp n i_math_bits_Div64_0) n (fr_math_bits_Div64_7 v41 v42 v43 v44 v45 v46 v47 v48 v49) k from by kernel_rfl).trans (l_math_bits_Div64_9_t cp n n v41 v42 v43 v44 v45 v46 v47 v48 v49 k)
def fr_math_bits_Div64_11 (v41 v42 v43 v44 v45 v46 v47 v58 : Int) : FF := [dT 2 ((tI .u64 v41) :: (dT 5 ((tI .u64 v42) :: (tI .u64 v43) :: (tI .u64 v44) :: (tI .u64 v45) :: (dT 1 ([(tI .u64 v46), (tI .u64 v47), (tI .u64 v58)]))))), dc, dc, dc, dc, dc, dc, dc, dc]
theorem s_math_bits_Div64_12_t {R : Type} (cp : Nat → Nat → Bool) (n : Nat) (v41 v42 v43 v44 v45 v46 v47 v48 v49 : Int) (k : Ex → FF → Option R) : X cp n i_math_bits_Div64_2 (fr_math_bits_Div64_2 v41 v42 v43 v44 v45 v46 v47 v48 v49) k = s_math_bits_Div64_12 cp n v41 v42 v43 v44 v45 v46 v47 v48 v49 (fun v58 => k .norm (fr_math_bits_Div64_11 v41 v42 v43 v44 v45 v46 v47 v58)) := (show X cp n i_math_bits_Div64_2 (fr_math_bits_Div64_2 v41 v42 v43 v44 v45 v46 v47 v48 v49) k = X cp n i_math_bits_Div64_1 (fr_math_bits_Div64_2 v41 v42 v43 v44 v45 v46 v47 v48 v49) (blkT 0 k) from by kernel_rfl).trans ((s_math_bits_Div64_10_t cp n v41 v42 v43 v44 v45 v46 v47 v48 v49 (blkT 0 k)).trans (by kernel_rfl))
def fr_math_bits_Div64_14 (v41 v42 v43 v44 v47 v58 v59 v60 v61 : Int) : FF := [dT 2 ((tI .u64 v41) :: (dT 5 ((tI .u64 v42) :: (tI .u64 v43) :: (tI .u64 v44) :: (dT 3 ([(tI .u64 v47), (tI .u64 v58)]))))), (tI .u64 v59) :: (tI .u64 v60) :: (tI .u64 v61) :: (dT 13 []), dc, dc, dc, dc, dc, dc, dc]
def fr_math_bits_Div64_16 (v41 v42 v43 v44 v47 v58 v60 v64 v65 : Int) : FF := [dT 2 ((tI .u64 v41) :: (dT 5 ((tI .u64 v42) :: (tI .u64 v43) :: (tI .u64 v44) :: (dT 3 ([(tI .u64 v47), (tI .u64 v58)]))))), (tI .u64 v64) :: (tI .u64 v60) :: (tI .u64 v65) :: (dT 13 []), dc, dc, dc, dc, dc, dc, dc]
def fr_math_bits_Div64_17 (v41 v42 v47 v58 v60 v66 : Int) : FF := [dT 2 ((tI .u64 v41) :: (dT 5 ((tI .u64 v42) :: (dT 5 ([(tI .u64 v47), (tI .u64 v58)]))))), dT 1 ((tI .u64 v60) :: (tI .u64 v66) :: (dT 13 [])), dc, dc, dc, dc, dc, dc, dc]
def fr_math_bits_Div64_18 (v41 v42 v43 v44 v47 v58 v60 v62 v63 : Int) : FF := [dT 2 ((tI .u64 v41) :: (dT 5 ((tI .u64 v42) :: (tI .u64 v43) :: (tI .u64 v44) :: (dT 3 ([(tI .u64 v47), (tI .u64 v58)]))))), (tI .u64 v62) :: (tI .u64 v60) :: (tI .u64 v63) :: (dT 13 []), dc, dc, dc, dc, dc, dc, dc]
theorem s_math_bits_Div64_15_t {R : Type} (cp : Nat → Nat → Bool) (n : Nat) (v41 v42 v43 v44 v47 v58 v60 v62 v63 : Int) (k : Ex → FF → Option R) : X cp n i_math_bits_Div64_3 (fr_math_bits_Div64_18 v41 v42 v43 v44 v47 v58 v60 v62 v63) k = s_math_bits_Div64_15 cp n v41 v42 v43 v44 v47 v58 v60 v62 v63 (fun v64 v65 => k .norm (fr_math_bits_Div64_16 v41 v42 v43 v44 v47 v58 v60 v64 v65)) (fun v66 => k (.exit 2) (fr_math_bits_Div64_17 v41 v42 v47 v58 v60 v66)) := by kernel_rfl
def fr_math_bits_Div64_19 (v41 v42 v47 v58 v60 v67 : Int) : FF := [dT 2 ((tI .u64 v41) :: (dT 5 ((tI .u64 v42) :: (dT 5 ([(tI .u64 v47), (tI .u64 v58)]))))), dT 1 ((tI .u64 v60) :: (tI .u64 v67) :: (dT 13 [])), dc, dc, dc, dc, dc, dc, dc]
theorem l_math_bits_Div64_20_t {R : Type} (cp : Nat → Nat → Bool) (n : Nat) : ∀ (m : Nat) (v41 v42 v43 v44 v47 v58 v60 v62 v63 : Int) (k : Ex → FF → Option R), loopN2 (X cp n i_math_bits_Div64_3) m (fr_math_bits_Div64_18 v41 v42 v43 v44 v47 v58 v60 v62 v63) k = l_math_bits_Div64_20 cp n m v41 v42 v43 v44 v47 v58 v60 v62 v63 (fun v67 => k (.exit 2) (fr_math_bits_Div64_19 v41 v42 v47 v58 v60 v67))
  | 0, _, _, _, _, _, _, _, _, _, _ => rfl
  | m + 1, v41, v42, v43, v44, v47, v58, v60, v62, v63, k => (loopN2_succ (X cp n i_math_bits_Div64_3) m (fr_math_bits_Div64_18 v41 v42 v43 v44 v47 v58 v60 v62 v63) k).trans ((s_math_bits_Div64_15_t cp n v41 v42 v43 v44 v47 v58 v60 v62 v63 (loopT (X cp n i_math_bits_Div64_3) m k)).trans ((show s_math_bits_Div64_15 cp n v41 v42 v43 v44 v47 v58 v60 v62 v63 (fun v64 v65 => loopT (X cp n i_math_bits_Div64_3) m k .norm (fr_math_bits_Div64_16 v41 v42 v43 v44 v47 v58 v60 v64 v65)) (fun v66 => loopT (X cp n i_math_bits_Div64_3) m k (.exit 2) (fr_math_bits_Div64_17 v41 v42 v47 v58 v60 v66)) = s_math_bits_Div64_15 cp n v41 v42 v43 v44 v47 v58 v60 v62 v63 (fun v64 v65 => loopN2 (X cp n i_math_bits_Div64_3) m (fr_math_bits_Div64_18 v41 v42 v43 v44 v47 v58 v60 v64 v65) k) (fun v66 => k (.exit 2) (fr_math_bits_Div64_19 v41 v42 v47 v58 v60 v66)) from by kernel_rfl).trans (congrArg (fun q => s_math_bits_Div64_15 cp n v41 v42 v43 v44 v47 v58 v60 v62 v63 q (fun v66 => k (.exit 2) (fr_math_bits_Div64_19 v41 v42 v47 v58 v60 v66))) (funext fun v64 => funext fun v65 => l_math_bits_Div64_20_t cp n m v41 v42 v43 v44 v47 v58 v60 v64 v65 k))))
theorem s_math_bits_Div64_21_t {R : Type} (cp : Nat → Nat → Bool) (n : Nat) (v41 v42 v43 v44 v47 v58 v59 v60 v61 : Int) (k : Ex → FF → Option R) : X cp n i_math_bits_Div64_4 (fr_math_bits_Div64_14 v41 v42 v43 v44 v47 v58 v59 v60 v61) k = s_math_bits_Div64_21 cp n v41 v42 v43 v44 v47 v58 v59 v60 v61 (fun v67 => k (.exit 2) (fr_math_bits_Div64_19 v41 v42 v47 v58 v60 v67)) := (show X cp n i_math_bits_Div64_4 (fr_math_bits_Div64_14 v41 v42 v43 v44 v47 v58 v59 v60 v61) k = loopN2 (X cp n i_math_bits_Div64_3) n (fr_math_bits_Div64_18 v41 v42 v43 v44 v47 v58 v60 v59 v61) k from by kernel_rfl).trans (l_math_bits_Div64_20_t cp n n v41 v42 v43 v44 v47 v58 v60 v59 v61 k)
def fr_math_bits_Div64_22 (v41 v42 v47 v58 v60 v68 : Int) : FF := [dT 2 ((tI .u64 v41) :: (dT 5 ((tI .u64 v42) :: (dT 5 ([(tI .u64 v47), (tI .u64 v58)]))))), dT 1 ((tI .u64 v60) :: (tI .u64 v68) :: (dT 13 [])), dc, dc, dc, dc, dc, dc, dc]
theorem s_math_bits_Div64_23_t {R : Type} (cp : Nat → Nat → Bool) (n : Nat) (v41 v42 v43 v44 v47 v58 v59 v60 v61 : Int) (k : Ex → FF → Option R) : X cp n i_math_bits_Div64_5 (fr_math_bits_Div64_14 v41 v42 v43 v44 v47 v58 v59 v60 v61) k = s_math_bits_Div64_23 cp n v41 v42 v43 v44 v47 v58 v59 v60 v61 (fun v68 => k .norm (fr_math_bits_Div64_22 v41 v42 v47 v58 v60 v68)) := (show X cp n i_math_bits_Div64_5 (fr_math_bits_Div64_14 v41 v42 v43 v44 v47 v58 v59 v60 v61) k = X cp n i_math_bits_Div64_4 (fr_math_bits_Div64_14 v41 v42 v43 v44 v47 v58 v59 v60 v61) (blkT 2 k) from by kernel_rfl).trans ((s_math_bits_Div64_21_t cp n v41 v42 v43 v44 v47 v58 v59 v60 v61 (blkT 2 k)).trans (by kernel_rfl))
def fr_math_bits_Div64_25 (v69 v70 : Int) : FF := [dT 6 ((tI .u64 v69) :: (tI .u64 v70) :: (dT 8 [])), dc, dc, dc, dc, dc, dc, dc, dc]
theorem s_math_bits_Div64_24_t {R : Type} (cp : Nat → Nat → Bool) (n : Nat) (v41 v42 v47 v58 v60 v68 : Int) (k : Ex → FF → Option R) : X cp n i_math_bits_Div64_6 (fr_math_bits_Div64_22 v41 v42 v47 v58 v60 v68) k = s_math_bits_Div64_24 cp n v41 v42 v47 v58 v60 v68 (fun v69 v70 => k .ret (fr_math_bits_Div64_25 v69 v70)) := by kernel_rfl
def fr_math_bits_Div64_26 (v71 v72 : Int) : FF := [dT 6 ((tI .u64 v71) :: (tI .u64 v72) :: (dT 8 [])), dc, dc, dc, dc, dc, dc, dc, dc]
theorem s_math_bits_Div64_27_t {R : Type} (cp : Nat → Nat → Bool) (n : Nat) (v41 v42 v43 v44 v47 v58 v59 v60 v61 : Int) (k : Ex → FF → Option R) : X cp n i_math_bits_Div64_7 (fr_math_bits_Div64_14 v41 v42 v43 v44 v47 v58 v59 v60 v61) k = s_math_bits_Div64_27 cp n v41 v42 v43 v44 v47 v58 v59 v60 v61 (fun v71 v72 => k .ret (fr_math_bits_Div64_26 v71 v72)) := (show X cp n i_math_bits_Div64_7 (fr_math_bits_Div64_14 v41 v42 v43 v44 v47 v58 v59 v60 v61) k = X cp n i_math_bits_Div64_5 (fr_math_bits_Div64_14 v41 v42 v43 v44 v47 v58 v59 v60 v61) (seqT (X cp n) i_math_bits_Div64_6 k) from by kernel_rfl).trans ((show X cp n i_math_bits_Div64_5 (fr_math_bits_Div64_14 v41 v42 v43 v44 v47 v58 v59 v60 v61) (seqT (X cp n) i_math_bits_Div64_6 k) = s_math_bits_Div64_23 cp n v41 v42 v43 v44 v47 v58 v59 v60 v61 (fun v68 => X cp n i_math_bits_Div64_6 (fr_math_bits_Div64_22 v41 v42 v47 v58 v60 v68) k) from (s_math_bits_Div64_23_t cp n v41 v42 v43 v44 v47 v58 v59 v60 v61 (seqT (X cp n) i_math_bits_Div64_6 k)).trans (by kernel_rfl)).trans (congrArg (fun q => s_math_bits_Div64_23 cp n v41 v42 v43 v44 v47 v58 v59 v60 v61 q) (funext fun v68 => (s_math_bits_Div64_24_t cp n v41 v42 v47 v58 v60 v68 k).trans (show s_math_bits_Div64_24 cp n v41 v42 v47 v58 v60 v68 (fun v69 v70 => k .ret (fr_math_bits_Div64_25 v69 v70)) = s_math_bits_Div64_24 cp n v41 v42 v47 v58 v60 v68 (fun v69 v70 => k .ret (fr_math_bits_Div64_26 v69 v70)) from by kernel_rfl))))
def fr_math_bits_Div64_28 (v73 v74 : Int) : FF := [dT 6 ((tI .u64 v73) :: (tI .u64 v74) :: (dT 8 [])), dc, dc, dc, dc, dc, dc, dc, dc]
theorem s_math_bits_Div64_29_t {R : Type} (cp : Nat → Nat → Bool) (n : Nat) (v41 v42 v43 v44 v45 v46 v47 v58 : Int) (k : Ex → FF → Option R) : X cp n i_math_bits_Div64_8 (fr_math_bits_Div64_11 v41 v42 v43 v44 v45 v46 v47 v58) k = s_math_bits_Div64_29 cp n v41 v42 v43 v44 v45 v46 v47 v58 (fun v73 v74 => k .ret (fr_math_bits_Div64_28 v73 v74)) := ((fun c => (show X cp n (.seq (.fin (.reg g_math_bits_Div64_21) [11, 13, 86, 87, 88, 89, 90, 91, 92, 93] []) (.seq (.fin (.reg g_math_bits_Div64_22) [94, 95, 96] []) (.seq (.fin (.reg g_math_bits_Div64_23) [97, 98, 99, 100, 101] []) c))) (fr_math_bits_Div64_11 v41 v42 v43 v44 v45 v46 v47 v58) k = s_math_bits_Div64_13 cp n v41 v42 v43 v44 v45 v46 v47 v58 (fun v59 v60 v61 => X cp n c (fr_math_bits_Div64_14 v41 v42 v43 v44 v47 v58 v59 v60 v61) k) from by kernel_rfl)) i_math_bits_Div64_7).trans (congrArg (fun q => s_math_bits_Div64_13 cp n v41 v42 v43 v44 v45 v46 v47 v58 q) (funext fun v59 => funext fun v60 => funext fun v61 => (s_math_bits_Div64_27_t cp n v41 v42 v43 v44 v47 v58 v59 v60 v61 k).trans (show s_math_bits_Div64_27 cp n v41 v42 v43 v44 v47 v58 v59 v60 v61 (fun v71 v72 => k .ret (fr_math_bits_Div64_26 v71 v72)) = s_math_bits_Div64_27 cp n v41 v42 v43 v44 v47 v58 v59 v60 v61 (fun v71 v72 => k .ret (fr_math_bits_Div64_28 v71 v72)) from by kernel_rfl)))
def fr_math_bits_Div64_30 (v75 v76 : Int) : FF := [dT 6 ((tI .u64 v75) :: (tI .u64 v76) :: (dT 8 [])), dc, dc, dc, dc, dc, dc, dc, dc]
theorem s_math_bits_Div64_31_t {R : Type} (cp : Nat → Nat → Bool) (n : Nat) (v41 v42 v43 v44 v45 v46 v47 v48 v49 : Int) (k : Ex → FF → Option R) : X cp n i_math_bits_Div64_9 (fr_math_bits_Div64_2 v41 v42 v43 v44 v45 v46 v47 v48 v49) k = s_math_bits_Div64_31 cp n v41 v42 v43 v44 v45 v46 v47 v48 v49 (fun v75 v76 => k .ret (fr_math_bits_Div64_30 v75 v76)) := (show X cp n i_math_bits_Div64_9 (fr_math_bits_Div64_2 v41 v42 v43 v44 v45 v46 v47 v48 v49) k = X cp n i_math_bits_Div64_2 (fr_math_bits_Div64_2 v41 v42 v43 v44 v45 v46 v47 v48 v49) (seqT (X cp n) i_math_bits_Div64_8 k) from by kernel_rfl).trans ((show X cp n i_math_bits_Div64_2 (fr_math_bits_Div64_2 v41 v42 v43 v44 v45 v46 v47 v48 v49) (seqT (X cp n) i_math_bits_Div64_8 k) = s_math_bits_Div64_12 cp n v41 v42 v43 v44 v45 v46 v47 v48 v49 (fun v58 => X cp n i_math_bits_Div64_8 (fr_math_bits_Div64_11 v41 v42 v43 v44 v45 v46 v47 v58) k) from (s_math_bits_Div64_12_t cp n v41 v42 v43 v44 v45 v46 v47 v48 v49 (seqT (X cp n) i_math_bits_Div64_8 k)).trans (by kernel_rfl)).trans (congrArg (fun q => s_math_bits_Div64_12 cp n v41 v42 v43 v44 v45 v46 v47 v48 v49 q) (funext fun v58 => (s_math_bits_Div64_29_t cp n v41 v42 v43 v44 v45 v46 v47 v58 k).trans (show s_math_bits_Div64_29 cp n v41 v42 v43 v44 v45 v46 v47 v58 (fun v73 v74 => k .ret (fr_math_bits_Div64_28 v73 v74)) = s_math_bits_Div64_29 cp n v41 v42 v43 v44 v45 v46 v47 v58 (fun v73 v74 => k .ret (fr_math_bits_Div64_30 v73 v74)) from by kernel_rfl))))
def fr_math_bits_Div64_32 (v77 v78 : Int) : FF := [dT 6 ((tI .u64 v77) :: (tI .u64 v78) :: (dT 8 [])), dc, dc, dc, dc, dc, dc, dc, dc]
def fr_math_bits_Div64_34 (p0 p1 p2 : Int) : FF := [(tI .u64 p0) :: (tI .u64 p1) :: (tI .u64 p2) :: (dT 13 []), dc, dc, dc, dc, dc, dc, dc, dc]
theorem s_math_bits_Div64_33_t {R : Type} (cp : Nat → Nat → Bool) (n : Nat) (p0 p1 p2 : Int) (k : Ex → FF → Option R) : X cp n i_math_bits_Div64_10 (fr_math_bits_Div64_34 p0 p1 p2) k = s_math_bits_Div64_33 cp n p0 p1 p2 (fun v77 v78 => k .ret (fr_math_bits_Div64_32 v77 v78)) := ((fun c => (show X cp n (.seq (.fin (.reg g_math_bits_Div64_0) [6, 7] []) (.seq (.seq (.fin (.reg g_math_bits_Div64_1) [19] []) (.fin (.cond (.s 20) (.stuck) (.skip)) [20] [])) (.seq (.seq (.fin (.reg g_math_bits_Div64_3) [22, 23] []) (.fin (.cond (.s 24) (.stuck) (.skip)) [24] [])) (.seq (.seq (.fin (.reg g_math_bits_Div64_5) [26] []) (.fin (.cond (.s 27) (.seq (.fin (.reg g_math_bits_Div64_6) [0, 1, 2, 27, 28, 29, 30, 31, 32, 33] []) (.ret)) (.skip)) [27] [])) (.seq (.fin (.reg g_math_bits_Div64_7) [34, 35, 36] []) (.seq (.fin (.reg g_math_bits_Div64_8) [37, 38, 39] []) (.seq (.fin (.reg g_math_bits_Div64_9) [40, 41] []) (.seq (.fin (.reg g_math_bits_Div64_10) [42, 43] []) (.seq (.fin (.reg g_math_bits_Div64_11) [0, 44, 45, 46, 47, 48, 49, 50, 51] []) (.seq (.fin (.reg g_math_bits_Div64_12) [1, 52, 53, 54] []) (.seq (.fin (.reg g_math_bits_Div64_13) [55, 56] []) (.seq (.fin (.reg g_math_bits_Div64_14) [12, 57, 58] []) (.seq (.fin (.reg g_math_bits_Div64_15) [59, 60, 61] []) (.seq (.fin (.reg g_math_bits_Div64_16) [62, 63, 64, 65, 66] []) c)))))))))))))) (fr_math_bits_Div64_34 p0 p1 p2) k = s_math_bits_Div64_1 cp n p0 p1 p2 (fun v41 v42 v43 v44 v45 v46 v47 v48 v49 => X cp n c (fr_math_bits_Div64_2 v41 v42 v43 v44 v45 v46 v47 v48 v49) k) (fun v50 v51 => k .ret (fr_math_bits_Div64_32 v50 v51)) from by kernel_rfl)) i_math_bits_Div64_9).trans (congrArg (fun q => s_math_bits_Div64_1 cp n p0 p1 p2 q (fun v50 v51 => k .ret (fr_math_bits_Div64_32 v50 v51))) (funext fun v41 => funext fun v42 => funext fun v43 => funext fun v44 => funext fun v45 => funext fun v46 => funext fun v47 => funext fun v48 => funext fun v49 => (s_math_bits_Div64_31_t cp n v41 v42 v43 v44 v45 v46 v47 v48 v49 k).trans (show s_math_bits_Div64_31 cp n v41 v42 v43 v44 v45 v46 v47 v48 v49 (fun v75 v76 => k .ret (fr_math_bits_Div64_30 v75 v76)) = s_math_bits_Div64_31 cp n v41 v42 v43 v44 v45 v46 v47 v48 v49 (fun v75 v76 => k .ret (fr_math_bits_Div64_32 v75 v76)) from by kernel_rfl)))
theorem run_math_bits_Div64 {R : Type} (cp : Nat → Nat → Bool) (n : Nat) (p0 p1 p2 : Int) (k : Ret2 RW → Option R) : G_math_bits_Div64 cp (n + 1) p0 p1 p2 (fun r0 r1 => k ⟨.tup [(tI .u64 r0), (tI .u64 r1)], []⟩) = run2 U cp (callP cp n) n fn_math_bits_Div64 [(tI .u64 p0), (tI .u64 p1), (tI .u64 p2)] [] k := ((X_run (f := fn_math_bits_Div64) (av := [(tI .u64 p0), (tI .u64 p1), (tI .u64 p2)]) (cells := []) (code := i_math_bits_Div64_10) (fr := (fr_math_bits_Div64_34 p0 p1 p2)) (k := k) (by kernel_rfl) (fun K => by kernel_rfl)).trans ((s_math_bits_Div64_33_t cp n p0 p1 p2 (finK2 fn_math_bits_Div64 k)).trans (by kernel_rfl))).symm
/-! tideway/seq.MulDiv -/
theorem run_seq_MulDiv {R : Type} (cp : Nat → Nat → Bool) (n : Nat) (p0 p1 p2 : Int) (k : Ret2 RW → Option R) : G_seq_MulDiv cp (n + 1) p0 p1 p2 (fun r0 r1 => k ⟨.tup [(tL r0), (tL r1)], []⟩) = run2 U cp (callP cp n) n fn_seq_MulDiv [(tL p0), (tL p1), (tL p2)] [] k := by kernel_rfl
/-! (*tideway/bbr.ctl).product -/
theorem run_bbr_ctl_product {R : Type} (cp : Nat → Nat → Bool) (n : Nat) (q0 : Sctl) (k : Ret2 RW → Option R) : G_bbr_ctl_product cp (n + 1) q0 (fun r0 r1 => k ⟨(tL r0), [(ectl r1)]⟩) = run2 U cp (callP cp n) n fn_bbr_ctl_product [.ptr 18 0] [(ectl q0)] k := by kernel_rfl
/-! (*tideway/bbr.ctl).probe -/
theorem run_bbr_ctl_probe {R : Type} (cp : Nat → Nat → Bool) (n : Nat) (p1 : Int) (q0 : Sctl) (k : Ret2 RW → Option R) : G_bbr_ctl_probe cp (n + 1) p1 q0 (fun r0 => k ⟨.tup [], [(ectl r0)]⟩) = run2 U cp (callP cp n) n fn_bbr_ctl_probe [.ptr 17 0, (tL p1)] [(ectl q0)] k := by kernel_rfl
/-! (*tideway/bbr.ctl).cycle -/
theorem run_bbr_ctl_cycle {R : Type} (cp : Nat → Nat → Bool) (n : Nat) (p1 : SSample) (q0 : Sctl) (k : Ret2 RW → Option R) : G_bbr_ctl_cycle cp (n + 1) p1 q0 (fun r0 => k ⟨.tup [], [(ectl r0)]⟩) = run2 U cp (callP cp n) n fn_bbr_ctl_cycle [.ptr 62 0, .agg (eSample p1)] [(ectl q0)] k := by kernel_rfl
/-! (*tideway/bbr.ctl).ask -/
def fr_bbr_ctl_ask_2 (p1 : SSample) (p2 : Bool) (q0 : Sctl) : FF := [(.ptr 122 0) :: (dT 1 ((tB p2) :: (dT 1 ((.ptr 145 0) :: (dT 11 []))))), dc, dc, dc, dc, dc, dc, dT 10 ((.hdr 22) :: (sl 0 5 (ectl q0))), sl 5 16 (ectl q0), sl 21 1 (ectl q0) ++ ((.hdr 8) :: ((eSample p1) ++ (dT 6 [])))]
def fr_bbr_ctl_ask_4 (p1 : SSample) (q0 : Sctl) (v87 : Bool) : FF := [(.ptr 122 0) :: (dT 3 ((.ptr 145 0) :: (dT 1 ((tB v87) :: (dT 9 []))))), dc, dc, dc, dc, dc, dc, dT 10 ((.hdr 22) :: (sl 0 5 (ectl q0))), sl 5 16 (ectl q0), sl 21 1 (ectl q0) ++ ((.hdr 8) :: ((eSample p1) ++ (dT 6 [])))]
def fr_bbr_ctl_ask_6 (v90 : SCc) : FF := [dc, dc, dc, dc, dc, dc, dc, dT 10 ((.hdr 22) :: (sl 0 5 (eCc v90))), sl 5 16 (eCc v90), sl 21 1 (eCc v90) ++ (dT 15 [])]
theorem s_bbr_ctl_ask_5_t {R : Type} (cp : Nat → Nat → Bool) (n : Nat) (p1 : SSample) (q0 : Sctl) (v87 : Bool) (k : Ex → FF → Option R) : X cp n i_bbr_ctl_ask_0 (fr_bbr_ctl_ask_4 p1 q0 v87) k = s_bbr_ctl_ask_5 cp n p1 q0 v87 (fun v90 => k .norm (fr_bbr_ctl_ask_6 v90)) := by kernel_rfl
def fr_bbr_ctl_ask_7 (v91 : SCc) : FF := [dc, dc, dc, dc, dc, dc, dc, dT 10 ((.hdr 22) :: (sl 0 5 (eCc v91))), sl 5 16 (eCc v91), sl 21 1 (eCc v91) ++ (dT 15 [])]
theorem s_bbr_ctl_ask_8_t {R : Type} (cp : Nat → Nat → Bool) (n : Nat) (p1 : SSample) (p2 : Bool) (q0 : Sctl) (k : Ex → FF → Option R) : X cp n i_bbr_ctl_ask_1 (fr_bbr_ctl_ask_2 p1 p2 q0) k = s_bbr_ctl_ask_8 cp n p1 p2 q0 (fun v91 => k .norm (fr_bbr_ctl_ask_7 v91)) := ((fun c => (show X cp n (.seq (.fin (.reg g_bbr_ctl_ask_1) [2, 7, 8, 9, 10, 11, 12, 13, 14, 15] []) c) (fr_bbr_ctl_ask_2 p1 p2 q0) k = s_bbr_ctl_ask_3 cp n p1 p2 q0 (fun v87 => X cp n c (fr_bbr_ctl_ask_4 p1 q0 v87) k) from by kernel_rfl)) i_bbr_ctl_ask_0).trans (congrArg (fun q => s_bbr_ctl_ask_3 cp n p1 p2 q0 q) (funext fun v87 => (s_bbr_ctl_ask_5_t cp n p1 q0 v87 k).trans (show s_bbr_ctl_ask_5 cp n p1 q0 v87 (fun v90 => k .norm (fr_bbr_ctl_ask_6 v90)) = s_bbr_ctl_ask_5 cp n p1 q0 v87 (fun v90 => k .norm (fr_bbr_ctl_ask_7 v90)) from by kernel_rfl)))
def fr_bbr_ctl_ask_9 (v92 : SCc) : FF := [dc, dc, dc, dc, dc, dc, dc, dT 10 ((.hdr 22) :: (sl 0 5 (eCc v92))), sl 5 16 (eCc v92), sl 21 1 (eCc v92) ++ (dT 15 [])]
theorem s_bbr_ctl_ask_10_t {R : Type} (cp : Nat → Nat → Bool) (n : Nat) (p1 : SSample) (p2 : Bool) (q0 : Sctl) (k : Ex → FF → Option R) : X cp n i_bbr_ctl_ask_2 (fr_bbr_ctl_ask_2 p1 p2 q0) k = s_bbr_ctl_ask_10 cp n p1 p2 q0 (fun v92 => k .norm (fr_bbr_ctl_ask_9 v92)) := (show X cp n i_bbr_ctl_ask_2 (fr_bbr_ctl_ask_2 p1 p2 q0) k = X cp n i_bbr_ctl_ask_1 (fr_bbr_ctl_ask_2 p1 p2 q0) (blkT 0 k) from by kernel_rfl).trans ((s_bbr_ctl_ask_8_t cp n p1 p2 q0 (blkT 0 k)).trans (by kernel_rfl))
def fr_bbr_ctl_ask_11 (v93 : SCc) : FF := [dc, dc, dc, dc, dc, dc, dc, dT 10 ((.hdr 22) :: (sl 0 5 (eCc v93))), sl 5 16 (eCc v93), sl 21 1 (eCc v93) ++ (dT 15 [])]
def fr_bbr_ctl_ask_13 (p1 : SSample) (p2 : Bool) (q0 : Sctl) : FF := [(.ptr 122 0) :: (.agg (eSample p1)) :: (tB p2) :: (dT 13 []), dc, dc, dc, dc, dc, dc, dT 10 ((.hdr 22) :: (sl 0 5 (ectl q0))), sl 5 16 (ectl q0), sl 21 1 (ectl q0) ++ (dT 15 [])]
theorem s_bbr_ctl_ask_12_t {R : Type} (cp : Nat → Nat → Bool) (n : Nat) (p1 : SSample) (p2 : Bool) (q0 : Sctl) (k : Ex → FF → Option R) : X cp n i_bbr_ctl_ask_3 (fr_bbr_ctl_ask_13 p1 p2 q0) k = s_bbr_ctl_ask_12 cp n p1 p2 q0 (fun v93 => k .norm (fr_bbr_ctl_ask_11 v93)) := ((fun c => (show X cp n (.seq (.fin (.reg g_bbr_ctl_ask_0) [1] []) c) (fr_bbr_ctl_ask_13 p1 p2 q0) k = s_bbr_ctl_ask_1 cp n p1 p2 q0 (X cp n c (fr_bbr_ctl_ask_2 p1 p2 q0) k) from by kernel_rfl)) i_bbr_ctl_ask_2).trans (congrArg (fun q => s_bbr_ctl_ask_1 cp n p1 p2 q0 q) ((s_bbr_ctl_ask_10_t cp n p1 p2 q0 k).trans (show s_bbr_ctl_ask_10 cp n p1 p2 q0 (fun v92 => k .norm (fr_bbr_ctl_ask_9 v92)) = s_bbr_ctl_ask_10 cp n p1 p2 q0 (fun v92 => k .norm (fr_bbr_ctl_ask_11 v92)) from by kernel_rfl)))
theorem run_bbr_ctl_ask {R : Type} (cp : Nat → Nat → Bool) (n : Nat) (p1 : SSample) (p2 : Bool) (q0 : Sctl) (k : Ret2 RW → Option R) : G_bbr_ctl_ask cp (n + 1) p1 p2 q0 (fun r0 => k ⟨.tup [], [(ectl r0)]⟩) = run2 U cp (callP cp n) n fn_bbr_ctl_ask [.ptr 122 0, .agg (eSample p1), (tB p2)] [(ectl q0)] k := ((X_run (f := fn_bbr_ctl_ask) (av := [.ptr 122 0, .agg (eSample p1), (tB p2)]) (cells := [(ectl q0)]) (code := i_bbr_ctl_ask_3) (fr := (fr_bbr_ctl_ask_13 p1 p2 q0)) (k := k) (by kernel_rfl) (fun K => by kernel_rfl)).trans ((s_bbr_ctl_ask_12_t cp n p1 p2 q0 (finK2 fn_bbr_ctl_ask k)).trans (by kernel_rfl))).symm
/-! tideway/seq.Clamp -/
theorem run_seq_Clamp {R : Type} (cp : Nat → Nat → Bool) (n : Nat) (p0 p1 p2 : Int) (k : Ret2 RW → Option R) : G_seq_Clamp cp (n + 1) p0 p1 p2 (fun r0 => k ⟨(tL r0), []⟩) = run2 U cp (callP cp n) n fn_seq_Clamp [(tL p0), (tL p1), (tL p2)] [] k := by kernel_rfl
/-! (*tideway/bbr.ctl).window -/
def fr_bbr_ctl_window_2 (p1 : SSample) (q0 : Sctl) (v36 : Int) : FF := [(.ptr 73 0) :: (dT 2 ((.ptr 96 0) :: (tL v36) :: (tL q0.xCc_Cwnd) :: (dT 10 []))), dc, dc, dc, dT 9 ((.hdr 22) :: (sl 0 6 (ectl q0))), sl 6 16 (ectl q0), (.hdr 8) :: ((eSample p1) ++ (dT 7 []))]
def fr_bbr_ctl_window_4 (q0 : Sctl) (v39 : Int) : FF := [(.ptr 73 0) :: (dT 4 ((tL v39) :: (dT 10 []))), dc, dc, dc, dT 9 ((.hdr 22) :: (sl 0 6 (ectl q0))), sl 6 16 (ectl q0), dc]
def fr_bbr_ctl_window_6 (q0 : Sctl) (v41 : Int) : FF := [dc, dc, dc, dc, dT 9 ([.hdr 22, (tL q0.xCc_Kind), (tL q0.xCc_Mss), (tL v41), (tL q0.xCc_Ssthresh), (tL q0.xCc_Acc), (tL q0.xCc_Wmax)]), [(tL q0.xCc_Epoch), (tL q0.xCc_K), (tL q0.xCc_West), (tL q0.xCc_Start), (tL q0.xCc_Mode), .row false (.rEntry q0.xCc_Bw), (tL q0.xCc_MinRtt), (tL q0.xCc_MinAt), (tL q0.xCc_Round), (tL q0.xCc_NextAt), (tL q0.xCc_Full), (tL q0.xCc_FullN), (tL q0.xCc_Phase), (tL q0.xCc_PhaseAt), (tL q0.xCc_DoneAt), (tL q0.xCc_Prior)], dc]
theorem s_bbr_ctl_window_5_t {R : Type} (cp : Nat → Nat → Bool) (n : Nat) (q0 : Sctl) (v39 : Int) (k : Ex → FF → Option R) : X cp n i_bbr_ctl_window_0 (fr_bbr_ctl_window_4 q0 v39) k = s_bbr_ctl_window_5 cp n q0 v39 (fun v41 => k .norm (fr_bbr_ctl_window_6 q0 v41)) := by kernel_rfl
def fr_bbr_ctl_window_7 (q0 : Sctl) (v42 : Int) : FF := [dc, dc, dc, dc, dT 9 ([.hdr 22, (tL q0.xCc_Kind), (tL q0.xCc_Mss), (tL v42), (tL q0.xCc_Ssthresh), (tL q0.xCc_Acc), (tL q0.xCc_Wmax)]), [(tL q0.xCc_Epoch), (tL q0.xCc_K), (tL q0.xCc_West), (tL q0.xCc_Start), (tL q0.xCc_Mode), .row false (.rEntry q0.xCc_Bw), (tL q0.xCc_MinRtt), (tL q0.xCc_MinAt), (tL q0.xCc_Round), (tL q0.xCc_NextAt), (tL q0.xCc_Full), (tL q0.xCc_FullN), (tL q0.xCc_Phase), (tL q0.xCc_PhaseAt), (tL q0.xCc_DoneAt), (tL q0.xCc_Prior)], dc]
theorem s_bbr_ctl_window_8_t {R : Type} (cp : Nat → Nat → Bool) (n : Nat) (p1 : SSample) (q0 : Sctl) (v36 : Int) (k : Ex → FF → Option R) : X cp n i_bbr_ctl_window_1 (fr_bbr_ctl_window_2 p1 q0 v36) k = s_bbr_ctl_window_8 cp n p1 q0 v36 (fun v42 => k .norm (fr_bbr_ctl_window_7 q0 v42)) := ((fun c => (show X cp n (.seq (.blk 0 (.seq (.fin (.reg g_bbr_ctl_window_3) [22, 23, 24, 25, 26, 27] []) (.cond (.s 21) (.fin (.reg g_bbr_ctl_window_4) [3, 4, 21, 28, 29, 30, 31, 32, 33, 34, 35] [(96, 8)]) (.seq (.fin (.reg g_bbr_ctl_window_5) [21, 37, 38, 39, 40, 41, 42] []) (.cond (.s 36) (.fin (.reg g_bbr_ctl_window_6) [3, 4, 36, 43, 44, 45, 46, 47, 48] [(96, 8)]) (.seq (.fin (.reg g_bbr_ctl_window_7) [4, 36, 50, 51, 52, 53, 54, 55, 56, 57] []) (.fin (.cond (.s 49) (.fin (.reg g_bbr_ctl_window_8) [3, 49, 58, 59, 60, 61] [(96, 8)]) (.skip)) [3, 49] [(96, 8)]))))))) c) (fr_bbr_ctl_window_2 p1 q0 v36) k = s_bbr_ctl_window_3 cp n p1 q0 v36 (fun v39 => X cp n c (fr_bbr_ctl_window_4 q0 v39) k) from by kernel_rfl)) i_bbr_ctl_window_0).trans (congrArg (fun q => s_bbr_ctl_window_3 cp n p1 q0 v36 q) (funext fun v39 => (s_bbr_ctl_window_5_t cp n q0 v39 k).trans (show s_bbr_ctl_window_5 cp n q0 v39 (fun v41 => k .norm (fr_bbr_ctl_window_6 q0 v41)) = s_bbr_ctl_window_5 cp n q0 v39 (fun v41 => k .norm (fr_bbr_ctl_window_7 q0 v41)) from by kernel_rfl)))
def fr_bbr_ctl_window_9 (q0 : Sctl) (v43 : Int) : FF := [dc, dc, dc, dc, dT 9 ([.hdr 22, (tL q0.xCc_Kind), (tL q0.xCc_Mss), (tL v43), (tL q0.xCc_Ssthresh), (tL q0.xCc_Acc), (tL q0.xCc_Wmax)]), [(tL q0.xCc_Epoch), (tL q0.xCc_K), (tL q0.xCc_West), (tL q0.xCc_Start), (tL q0.xCc_Mode), .row false (.rEntry q0.xCc_Bw), (tL q0.xCc_MinRtt), (tL q0.xCc_MinAt), (tL q0.xCc_Round), (tL q0.xCc_NextAt), (tL q0.xCc_Full), (tL q0.xCc_FullN), (tL q0.xCc_Phase), (tL q0.xCc_PhaseAt), (tL q0.xCc_DoneAt), (tL q0.xCc_Prior)], dc]
def fr_bbr_ctl_window_11 (p1 : SSample) (q0 : Sctl) : FF := [(.ptr 73 0) :: (.agg (eSample p1)) :: (dT 14 []), dc, dc, dc, dT 9 ((.hdr 22) :: (sl 0 6 (ectl q0))), sl 6 16 (ectl q0), dc]
theorem s_bbr_ctl_window_10_t {R : Type} (cp : Nat → Nat → Bool) (n : Nat) (p1 : SSample) (q0 : Sctl) (k : Ex → FF → Option R) : X cp n i_bbr_ctl_window_2 (fr_bbr_ctl_window_11 p1 q0) k = s_bbr_ctl_window_10 cp n p1 q0 (fun v43 => k .norm (fr_bbr_ctl_window_9 q0 v43)) := ((fun c => (show X cp n (.seq (.fin (.reg g_bbr_ctl_window_0) [1] []) (.seq (.fin (.reg g_bbr_ctl_window_1) [6, 7, 8, 9, 10, 11, 12, 13, 14, 15] []) (.seq (.fin (.reg g_bbr_ctl_window_2) [16, 17, 18, 19, 20] []) c))) (fr_bbr_ctl_window_11 p1 q0) k = s_bbr_ctl_window_1 cp n p1 q0 (fun v36 => X cp n c (fr_bbr_ctl_window_2 p1 q0 v36) k) from by kernel_rfl)) i_bbr_ctl_window_1).trans (congrArg (fun q => s_bbr_ctl_window_1 cp n p1 q0 q) (funext fun v36 => (s_bbr_ctl_window_8_t cp n p1 q0 v36 k).trans (show s_bbr_ctl_window_8 cp n p1 q0 v36 (fun v42 => k .norm (fr_bbr_ctl_window_7 q0 v42)) = s_bbr_ctl_window_8 cp n p1 q0 v36 (fun v42 => k .norm (fr_bbr_ctl_window_9 q0 v42)) from by kernel_rfl)))
theorem run_bbr_ctl_window {R : Type} (cp : Nat → Nat → Bool) (n : Nat) (p1 : SSample) (q0 : Sctl) (k : Ret2 RW → Option R) : G_bbr_ctl_window cp (n + 1) p1 q0 (fun r0 => k ⟨.tup [], [(ectl r0)]⟩) = run2 U cp (callP cp n) n fn_bbr_ctl_window [.ptr 73 0, .agg (eSample p1)] [(ectl q0)] k := ((X_run (f := fn_bbr_ctl_window) (av := [.ptr 73 0, .agg (eSample p1)]) (cells := [(ectl q0)]) (code := i_bbr_ctl_window_2) (fr := (fr_bbr_ctl_window_11 p1 q0)) (k := k) (by kernel_rfl) (fun K => by kernel_rfl)).trans ((s_bbr_ctl_window_10_t cp n p1 q0 (finK2 fn_bbr_ctl_window k)).trans (by kernel_rfl))).symm
/-! tideway/bbr.Acked -/
def fr_bbr_Acked_2 (p1 : SSample) (v71 : Bool) (v72 : SCc) : FF := [dT 3 ((.ptr 107 0) :: (.ptr 116 0) :: (dT 2 ((.ptr 139 0) :: (tB v71) :: (dT 7 [])))), dc, dc, dc, dc, dc, dT 11 ((.hdr 8) :: (sl 0 4 (eSample p1))), sl 4 4 (eSample p1) ++ [.hdr 22, (tL 0), (tL 0), (tL 0), (tL 0), (tL 0), (tL 0), (tL 0), (tL 0), (tL 0), (tL 0), (tL 0)], (.row false (.rEntry [])) :: (tL 0) :: (tL 0) :: (tL 0) :: (tL 0) :: (tL 0) :: (tL 0) :: (tL 0) :: (tL 0) :: (tL 0) :: (tL 0) :: (.hdr 22) :: (sl 0 4 (eCc v72)), sl 4 16 (eCc v72), sl 20 2 (eCc v72) ++ (dT 14 [])]
def fr_bbr_Acked_3 (v73 : Int) : FF := [dT 4 ((.ptr 116 0) :: (tL v73) :: (dT 10 [])), dc, dc, dc, dc, dc, dc, dT 4 ([.hdr 22, (tL 0), (tL 0), (tL 0), (tL 0), (tL 0), (tL 0), (tL 0), (tL 0), (tL 0), (tL 0), (tL 0)]), (.row false (.rEntry [])) :: (tL 0) :: (tL 0) :: (tL 0) :: (tL 0) :: (tL 0) :: (tL 0) :: (tL 0) :: (tL 0) :: (tL 0) :: (tL 0) :: (dT 5 []), dc, dc]
def fr_bbr_Acked_5 (p1 : SSample) (v82 : Bool) (v83 : SCc) : FF := [dT 3 ((.ptr 107 0) :: (.ptr 116 0) :: (dT 2 ((.ptr 139 0) :: (dT 1 ((tB v82) :: (dT 6 [])))))), dc, dc, dc, dc, dc, dT 11 ((.hdr 8) :: (sl 0 4 (eSample p1))), sl 4 4 (eSample p1) ++ [.hdr 22, (tL 0), (tL 0), (tL 0), (tL 0), (tL 0), (tL 0), (tL 0), (tL 0), (tL 0), (tL 0), (tL 0)], (.row false (.rEntry [])) :: (tL 0) :: (tL 0) :: (tL 0) :: (tL 0) :: (tL 0) :: (tL 0) :: (tL 0) :: (tL 0) :: (tL 0) :: (tL 0) :: (.hdr 22) :: (sl 0 4 (eCc v83)), sl 4 16 (eCc v83), sl 20 2 (eCc v83) ++ (dT 14 [])]
def fr_bbr_Acked_7 (v87 : SCc) : FF := [dT 4 ((.ptr 116 0) :: (tL 0) :: (dT 10 [])), dc, dc, dc, dc, dc, dc, dT 4 ((.hdr 22) :: (sl 0 11 (eCc v87))), sl 11 11 (eCc v87) ++ (dT 5 []), dc, dc]
theorem s_bbr_Acked_6_t {R : Type} (cp : Nat → Nat → Bool) (n : Nat) (p1 : SSample) (v82 : Bool) (v83 : SCc) (k : Ex → FF → Option R) : X cp n i_bbr_Acked_0 (fr_bbr_Acked_5 p1 v82 v83) k = s_bbr_Acked_6 cp n p1 v82 v83 (fun v87 => k .ret (fr_bbr_Acked_7 v87)) := by kernel_rfl
def fr_bbr_Acked_8 (v88 : SCc) : FF := [dT 4 ((.ptr 116 0) :: (tL 0) :: (dT 10 [])), dc, dc, dc, dc, dc, dc, dT 4 ((.hdr 22) :: (sl 0 11 (eCc v88))), sl 11 11 (eCc v88) ++ (dT 5 []), dc, dc]
theorem s_bbr_Acked_9_t {R : Type} (cp : Nat → Nat → Bool) (n : Nat) (p1 : SSample) (v71 : Bool) (v72 : SCc) (k : Ex → FF → Option R) : X cp n i_bbr_Acked_1 (fr_bbr_Acked_2 p1 v71 v72) k = s_bbr_Acked_9 cp n p1 v71 v72 (fun v88 => k .ret (fr_bbr_Acked_8 v88)) := ((fun c => (show X cp n (.seq (.fin (.reg g_bbr_Acked_8) [48, 49, 50] []) (.seq (.fin (.reg g_bbr_Acked_9) [51, 52, 53] []) (.seq (.seq (.fin (.reg g_bbr_Acked_10) [8, 54, 55, 56, 57, 58, 59, 60, 61, 62, 63, 64, 65, 66] []) (.fin (.cond (.s 67) (.fin (.reg g_bbr_Acked_11) [67, 68, 69] []) (.skip)) [67] [])) c))) (fr_bbr_Acked_2 p1 v71 v72) k = s_bbr_Acked_4 cp n p1 v71 v72 (fun v82 v83 => X cp n c (fr_bbr_Acked_5 p1 v82 v83) k) from by kernel_rfl)) i_bbr_Acked_0).trans (congrArg (fun q => s_bbr_Acked_4 cp n p1 v71 v72 q) (funext fun v82 => funext fun v83 => (s_bbr_Acked_6_t cp n p1 v82 v83 k).trans (show s_bbr_Acked_6 cp n p1 v82 v83 (fun v87 => k .ret (fr_bbr_Acked_7 v87)) = s_bbr_Acked_6 cp n p1 v82 v83 (fun v87 => k .ret (fr_bbr_Acked_8 v87)) from by kernel_rfl)))
def fr_bbr_Acked_10 (v89 : Int) (v90 : SCc) : FF := [dT 4 ((.ptr 116 0) :: (tL v89) :: (dT 10 [])), dc, dc, dc, dc, dc, dc, dT 4 ((.hdr 22) :: (sl 0 11 (eCc v90))), sl 11 11 (eCc v90) ++ (dT 5 []), dc, dc]
def fr_bbr_Acked_12 (p0 : SCc) (p1 : SSample) : FF := [(.agg (eCc p0)) :: (.agg (eSample p1)) :: (dT 14 []), dc, dc, dc, dc, dc, dc, dc, dc, dc, dc]
theorem s_bbr_Acked_11_t {R : Type} (cp : Nat → Nat → Bool) (n : Nat) (p0 : SCc) (p1 : SSample) (k : Ex → FF → Option R) : X cp n i_bbr_Acked_2 (fr_bbr_Acked_12 p0 p1) k = s_bbr_Acked_11 cp n p0 p1 (fun v89 v90 => k .ret (fr_bbr_Acked_10 v89 v90)) := ((fun c => (show X cp n (.seq (.fin (.reg g_bbr_Acked_0) [0, 1, 5] []) (.seq (.seq (.fin (.reg g_bbr_Acked_1) [10, 11] []) (.seq (.fin (.reg g_bbr_Acked_2) [12] []) (.fin (.cond (.s 13) (.seq (.fin (.reg g_bbr_Acked_3) [2, 3, 6, 13, 14, 15] [(84, 22), (107, 8)]) (.ret)) (.skip)) [6, 13] []))) (.seq (.seq (.fin (.reg g_bbr_Acked_4) [16, 17, 18, 19, 20, 21, 22, 23, 24, 25, 26, 27, 28, 29, 30, 31, 32, 33, 34, 35, 36, 37, 38, 39] []) (.fin (.cond (.s 40) (.seq (.fin (.reg g_bbr_Acked_5) [2, 3, 40, 41] [(84, 22), (107, 8)]) (.ret)) (.skip)) [40] [])) (.seq (.fin (.reg g_bbr_Acked_6) [2, 42, 43, 44] [(84, 22)]) (.seq (.fin (.reg g_bbr_Acked_7) [45, 46, 47] []) c))))) (fr_bbr_Acked_12 p0 p1) k = s_bbr_Acked_1 cp n p0 p1 (fun v71 v72 => X cp n c (fr_bbr_Acked_2 p1 v71 v72) k) (fun v73 => k .ret (fr_bbr_Acked_10 v73 (SCc.mk 0 0 0 0 0 0 0 0 0 0 0 [] 0 0 0 0 0 0 0 0 0 0))) from by kernel_rfl)) i_bbr_Acked_1).trans (congrArg (fun q => s_bbr_Acked_1 cp n p0 p1 q (fun v73 => k .ret (fr_bbr_Acked_10 v73 (SCc.mk 0 0 0 0 0 0 0 0 0 0 0 [] 0 0 0 0 0 0 0 0 0 0)))) (funext fun v71 => funext fun v72 => (s_bbr_Acked_9_t cp n p1 v71 v72 k).trans (show s_bbr_Acked_9 cp n p1 v71 v72 (fun v88 => k .ret (fr_bbr_Acked_8 v88)) = s_bbr_Acked_9 cp n p1 v71 v72 (fun v88 => k .ret (fr_bbr_Acked_10 0 v88)) from by kernel_rfl)))
theorem run_bbr_Acked {R : Type} (cp : Nat → Nat → Bool) (n : Nat) (p0 : SCc) (p1 : SSample) (k : Ret2 RW → Option R) : G_bbr_Acked cp (n + 1) p0 p1 (fun r0 r1 => k ⟨.tup [.agg (eCc r0), (tL r1)], []⟩) = run2 U cp (callP cp n) n fn_bbr_Acked [.agg (eCc p0), .agg (eSample p1)] [] k := ((X_run (f := fn_bbr_Acked) (av := [.agg (eCc p0), .agg (eSample p1)]) (cells := []) (code := i_bbr_Acked_2) (fr := (fr_bbr_Acked_12 p0 p1)) (k := k) (by kernel_rfl) (fun K => by kernel_rfl)).trans ((s_bbr_Acked_11_t cp n p0 p1 (finK2 fn_bbr_Acked k)).trans (by kernel_rfl))).symm
/-! tideway/bbr.Timeout -/
theorem run_bbr_Timeout {R : Type} (cp : Nat → Nat → Bool) (n : Nat) (p0 : SCc) (p1 : Int) (k : Ret2 RW → Option R) : G_bbr_Timeout cp (n + 1) p0 p1 (fun r0 r1 => k ⟨.tup [.agg (eCc r0), (tL r1)], []⟩) = run2 U cp (callP cp n) n fn_bbr_Timeout [.agg (eCc p0), (tL p1)] [] k := by kernel_rfl
/-! tideway/bbr.Bandwidth -/
theorem run_bbr_Bandwidth {R : Type} (cp : Nat → Nat → Bool) (n : Nat) (p0 : SCc) (k : Ret2 RW → Option R) : G_bbr_Bandwidth cp (n + 1) p0 (fun r0 => k ⟨(tL r0), []⟩) = run2 U cp (callP cp n) n fn_bbr_Bandwidth [.agg (eCc p0)] [] k := by kernel_rfl
/-! tideway/bbr.Product -/
theorem run_bbr_Product {R : Type} (cp : Nat → Nat → Bool) (n : Nat) (p0 : SCc) (k : Ret2 RW → Option R) : G_bbr_Product cp (n + 1) p0 (fun r0 => k ⟨(tL r0), []⟩) = run2 U cp (callP cp n) n fn_bbr_Product [.agg (eCc p0)] [] k := by kernel_rfl
/-! tideway/bbr.Gain -/
theorem run_bbr_Gain {R : Type} (cp : Nat → Nat → Bool) (n : Nat) (p0 : SCc) (k : Ret2 RW → Option R) : G_bbr_Gain cp (n + 1) p0 (fun r0 => k ⟨(tL r0), []⟩) = run2 U cp (callP cp n) n fn_bbr_Gain [.agg (eCc p0)] [] k := by kernel_rfl
/-! tideway/tidewaylaw18.heads -/
def fr_law18_heads_2 (v21 v22 v23 v24 : Int) (v25 v26 : SCc) : FF := [dT 2 ((tL v21) :: (.ptr 102 0) :: (tL v22) :: (.ptr 125 0) :: (tL v23) :: (dT 1 ((tL v24) :: (dT 7 [])))), dc, dc, dc, dc, dc, dT 6 ((.hdr 22) :: (sl 0 9 (eCc v25))), sl 9 13 (eCc v25) ++ ((.hdr 22) :: (sl 0 2 (eCc v26))), sl 2 16 (eCc v26), sl 18 4 (eCc v26) ++ (dT 12 []), dc, dc, dc]
def fr_law18_heads_4 (v39 : Bool) : FF := [(tB v39) :: (dT 15 []), dc, dc, dc, dc, dc, dc, dc, dc, dc, dc, dc, dc]
theorem s_law18_heads_3_t {R : Type} (cp : Nat → Nat → Bool) (n : Nat) (v21 v22 v23 v24 : Int) (v25 v26 : SCc) (k : Ex → FF → Option R) : X cp n i_law18_heads_0 (fr_law18_heads_2 v21 v22 v23 v24 v25 v26) k = s_law18_heads_3 cp n v21 v22 v23 v24 v25 v26 (fun v39 => k .ret (fr_law18_heads_4 v39)) := by kernel_rfl
def fr_law18_heads_5 (v40 : Bool) : FF := [(tB v40) :: (dT 15 []), dc, dc, dc, dc, dc, dc, dc, dc, dc, dc, dc, dc]
def fr_law18_heads_7 : FF := [dc, dc, dc, dc, dc, dc, dc, dc, dc, dc, dc, dc, dc]
theorem s_law18_heads_6_t {R : Type} (cp : Nat → Nat → Bool) (n : Nat) (k : Ex → FF → Option R) : X cp n i_law18_heads_1 fr_law18_heads_7 k = s_law18_heads_6 cp n (fun v40 => k .ret (fr_law18_heads_5 v40)) := ((fun c => (show X cp n (.seq (.fin (.reg g_law18_heads_0) [0] []) (.seq (.fin (.reg g_law18_heads_1) [11, 12, 13, 14] []) (.seq (.fin (.reg g_law18_heads_2) [1, 15, 16, 17, 18, 19, 20] [(79, 22)]) (.seq (.fin (.reg g_law18_heads_3) [21, 22, 23, 24, 25] []) (.seq (.fin (.reg g_law18_heads_4) [7, 26, 27, 28, 29] [(148, 22)]) c))))) fr_law18_heads_7 k = s_law18_heads_1 cp n (fun v21 v22 v23 v24 v25 v26 => X cp n c (fr_law18_heads_2 v21 v22 v23 v24 v25 v26) k) from by kernel_rfl)) i_law18_heads_0).trans (congrArg (fun q => s_law18_heads_1 cp n q) (funext fun v21 => funext fun v22 => funext fun v23 => funext fun v24 => funext fun v25 => funext fun v26 => (s_law18_heads_3_t cp n v21 v22 v23 v24 v25 v26 k).trans (show s_law18_heads_3 cp n v21 v22 v23 v24 v25 v26 (fun v39 => k .ret (fr_law18_heads_4 v39)) = s_law18_heads_3 cp n v21 v22 v23 v24 v25 v26 (fun v39 => k .ret (fr_law18_heads_5 v39)) from by kernel_rfl)))
theorem run_law18_heads {R : Type} (cp : Nat → Nat → Bool) (n : Nat) (k : Ret2 RW → Option R) : G_law18_heads cp (n + 1) (fun r0 => k ⟨(tB r0), []⟩) = run2 U cp (callP cp n) n fn_law18_heads [] [] k := ((X_run (f := fn_law18_heads) (av := []) (cells := []) (code := i_law18_heads_1) (fr := fr_law18_heads_7) (k := k) (by kernel_rfl) (fun K => by kernel_rfl)).trans ((s_law18_heads_6_t cp n  (finK2 fn_law18_heads k)).trans (by kernel_rfl))).symm
/-! tideway/tidewaylaw18.BbrSteady -/
def fr_law18_BbrSteady_2 (p0 p1 p2 : Int) : FF := [(tL p0) :: (tL p1) :: (tL p2) :: (dT 13 []), dc, dc, dc, dc, dc, dc, dc, dc, dc, dc]
def fr_law18_BbrSteady_4 (p0 p1 p2 : Int) (v1 : Bool) : FF := [(tL p0) :: (tL p1) :: (tL p2) :: (dT 13 []), dc, dT 4 ((tB v1) :: (dT 11 [])), dc, dc, dc, dc, dc, dc, dc, dc]
def fr_law18_BbrSteady_6 (v3 : Bool) : FF := [dT 6 ((tB v3) :: (dT 9 [])), dc, dc, dc, dc, dc, dc, dc, dc, dc, dc]
theorem s_law18_BbrSteady_5_t {R : Type} (cp : Nat → Nat → Bool) (n : Nat) (p0 p1 p2 : Int) (v1 : Bool) (k : Ex → FF → Option R) : X cp n i_law18_BbrSteady_0 (fr_law18_BbrSteady_4 p0 p1 p2 v1) k = s_law18_BbrSteady_5 cp n p0 p1 p2 v1 (k .norm (fr_law18_BbrSteady_2 p0 p1 p2)) (fun v3 => k .ret (fr_law18_BbrSteady_6 v3)) := by kernel_rfl
def fr_law18_BbrSteady_7 (v4 : Bool) : FF := [dT 6 ((tB v4) :: (dT 9 [])), dc, dc, dc, dc, dc, dc, dc, dc, dc, dc]
theorem s_law18_BbrSteady_8_t {R : Type} (cp : Nat → Nat → Bool) (n : Nat) (p0 p1 p2 : Int) (k : Ex → FF → Option R) : X cp n i_law18_BbrSteady_1 (fr_law18_BbrSteady_2 p0 p1 p2) k = s_law18_BbrSteady_8 cp n p0 p1 p2 (k .norm (fr_law18_BbrSteady_2 p0 p1 p2)) (fun v4 => k .ret (fr_law18_BbrSteady_7 v4)) := ((fun c => (show X cp n (.seq (.fin (.reg g_law18_BbrSteady_1) [15, 16, 17, 18, 19, 20, 21, 22, 23, 24, 25, 26, 27, 28, 29, 30, 31, 32, 33, 34, 35] []) c) (fr_law18_BbrSteady_2 p0 p1 p2) k = s_law18_BbrSteady_3 cp n p0 p1 p2 (fun v1 => X cp n c (fr_law18_BbrSteady_4 p0 p1 p2 v1) k) from by kernel_rfl)) i_law18_BbrSteady_0).trans (congrArg (fun q => s_law18_BbrSteady_3 cp n p0 p1 p2 q) (funext fun v1 => (s_law18_BbrSteady_5_t cp n p0 p1 p2 v1 k).trans (show s_law18_BbrSteady_5 cp n p0 p1 p2 v1 (k .norm (fr_law18_BbrSteady_2 p0 p1 p2)) (fun v3 => k .ret (fr_law18_BbrSteady_6 v3)) = s_law18_BbrSteady_5 cp n p0 p1 p2 v1 (k .norm (fr_law18_BbrSteady_2 p0 p1 p2)) (fun v3 => k .ret (fr_law18_BbrSteady_7 v3)) from by kernel_rfl)))
def fr_law18_BbrSteady_10 (p0 p1 p2 : Int) (v11 : SCc) : FF := [(tL p0) :: (tL p1) :: (tL p2) :: (dT 4 ((.ptr 125 0) :: (dT 1 ((tL 0) :: (dT 6 []))))), dc, dc, dc, dc, dc, dc, dT 13 ((.hdr 22) :: (sl 0 2 (eCc v11))), sl 2 16 (eCc v11), sl 18 4 (eCc v11) ++ (dT 12 []), dc]
def fr_law18_BbrSteady_11 : FF := [dT 6 ((tB false) :: (dT 9 [])), dc, dc, dc, dc, dc, dc, dc, dc, dc, dc]
def fr_law18_BbrSteady_13 (p0 p1 p2 : Int) (v11 : SCc) : FF := [(tL p0) :: (tL p1) :: (tL p2) :: (dT 4 ((.ptr 125 0) :: (dT 1 ((tL 0) :: (tL 1) :: (dT 5 []))))), dc, dc, dc, dc, dc, dc, dT 13 ((.hdr 22) :: (sl 0 2 (eCc v11))), sl 2 16 (eCc v11), sl 18 4 (eCc v11) ++ (dT 12 []), dc]
def fr_law18_BbrSteady_15 (p0 p1 p2 v17 v18 : Int) (v19 : SCc) : FF := [(tL p0) :: (tL p1) :: (tL p2) :: (dT 4 ((.ptr 125 0) :: (dT 1 ((tL v17) :: (tL v18) :: (dT 5 []))))), dc, dc, dc, dc, dc, dc, dT 13 ((.hdr 22) :: (sl 0 2 (eCc v19))), sl 2 16 (eCc v19), sl 18 4 (eCc v19) ++ (dT 12 []), dc]
def fr_law18_BbrSteady_16 (p0 p1 p2 : Int) (v14 : SCc) : FF := [(tL p0) :: (tL p1) :: (tL p2) :: (dT 4 ((.ptr 125 0) :: (dT 8 []))), dc, dc, dc, dc, dc, dc, dT 13 ((.hdr 22) :: (sl 0 2 (eCc v14))), sl 2 16 (eCc v14), sl 18 4 (eCc v14) ++ (dT 12 []), dc]
def fr_law18_BbrSteady_17 (p0 p1 p2 v12 v13 : Int) (v14 : SCc) : FF := [(tL p0) :: (tL p1) :: (tL p2) :: (dT 4 ((.ptr 125 0) :: (dT 1 ((tL v12) :: (tL v13) :: (dT 5 []))))), dc, dc, dc, dc, dc, dc, dT 13 ((.hdr 22) :: (sl 0 2 (eCc v14))), sl 2 16 (eCc v14), sl 18 4 (eCc v14) ++ (dT 12 []), dc]
theorem s_law18_BbrSteady_14_t {R : Type} (cp : Nat → Nat → Bool) (n : Nat) (p0 p1 p2 v12 v13 : Int) (v14 : SCc) (k : Ex → FF → Option R) : X cp n i_law18_BbrSteady_2 (fr_law18_BbrSteady_17 p0 p1 p2 v12 v13 v14) k = s_law18_BbrSteady_14 cp n p0 p1 p2 v12 v13 v14 (fun v17 v18 v19 => k .norm (fr_law18_BbrSteady_15 p0 p1 p2 v17 v18 v19)) (k .ret fr_law18_BbrSteady_11) (k (.exit 0) (fr_law18_BbrSteady_16 p0 p1 p2 v14)) := by kernel_rfl
def fr_law18_BbrSteady_18 (p0 p1 p2 : Int) (v20 : SCc) : FF := [(tL p0) :: (tL p1) :: (tL p2) :: (dT 4 ((.ptr 125 0) :: (dT 8 []))), dc, dc, dc, dc, dc, dc, dT 13 ((.hdr 22) :: (sl 0 2 (eCc v20))), sl 2 16 (eCc v20), sl 18 4 (eCc v20) ++ (dT 12 []), dc]
theorem l_law18_BbrSteady_19_t {R : Type} (cp : Nat → Nat → Bool) (n : Nat) : ∀ (m : Nat) (p0 p1 p2 v12 v13 : Int) (v14 : SCc) (k : Ex → FF → Option R), loopN2 (X cp n i_law18_BbrSteady_2) m (fr_law18_BbrSteady_17 p0 p1 p2 v12 v13 v14) k = l_law18_BbrSteady_19 cp n m p0 p1 p2 v12 v13 v14 (k .ret fr_law18_BbrSteady_11) (fun v20 => k (.exit 0) (fr_law18_BbrSteady_18 p0 p1 p2 v20))
  | 0, _, _, _, _, _, _, _ => rfl
  | m + 1, p0, p1, p2, v12, v13, v14, k => (loopN2_succ (X cp n i_law18_BbrSteady_2) m (fr_law18_BbrSteady_17 p0 p1 p2 v12 v13 v14) k).trans ((s_law18_BbrSteady_14_t cp n p0 p1 p2 v12 v13 v14 (loopT (X cp n i_law18_BbrSteady_2) m k)).trans ((show s_law18_BbrSteady_14 cp n p0 p1 p2 v12 v13 v14 (fun v17 v18 v19 => loopT (X cp n i_law18_BbrSteady_2) m k .norm (fr_law18_BbrSteady_15 p0 p1 p2 v17 v18 v19)) (loopT (X cp n i_law18_BbrSteady_2) m k .ret fr_law18_BbrSteady_11) (loopT (X cp n i_law18_BbrSteady_2) m k (.exit 0) (fr_law18_BbrSteady_16 p0 p1 p2 v14)) = s_law18_BbrSteady_14 cp n p0 p1 p2 v12 v13 v14 (fun v17 v18 v19 => loopN2 (X cp n i_law18_BbrSteady_2) m (fr_law18_BbrSteady_17 p0 p1 p2 v17 v18 v19) k) (k .ret fr_law18_BbrSteady_11) (k (.exit 0) (fr_law18_BbrSteady_18 p0 p1 p2 v14)) from by kernel_rfl).trans (congrArg (fun q => s_law18_BbrSteady_14 cp n p0 p1 p2 v12 v13 v14 q (k .ret fr_law18_BbrSteady_11) (k (.exit 0) (fr_law18_BbrSteady_18 p0 p1 p2 v14))) (funext fun v17 => funext fun v18 => funext fun v19 => l_law18_BbrSteady_19_t cp n m p0 p1 p2 v17 v18 v19 k))))
theorem s_law18_BbrSteady_20_t {R : Type} (cp : Nat → Nat → Bool) (n : Nat) (p0 p1 p2 : Int) (v11 : SCc) (k : Ex → FF → Option R) : X cp n i_law18_BbrSteady_3 (fr_law18_BbrSteady_13 p0 p1 p2 v11) k = s_law18_BbrSteady_20 cp n p0 p1 p2 v11 (k .ret fr_law18_BbrSteady_11) (fun v20 => k (.exit 0) (fr_law18_BbrSteady_18 p0 p1 p2 v20)) := (show X cp n i_law18_BbrSteady_3 (fr_law18_BbrSteady_13 p0 p1 p2 v11) k = loopN2 (X cp n i_law18_BbrSteady_2) n (fr_law18_BbrSteady_17 p0 p1 p2 0 1 v11) k from by kernel_rfl).trans (l_law18_BbrSteady_19_t cp n n p0 p1 p2 0 1 v11 k)
def fr_law18_BbrSteady_21 (p0 p1 p2 : Int) (v21 : SCc) : FF := [(tL p0) :: (tL p1) :: (tL p2) :: (dT 4 ((.ptr 125 0) :: (dT 8 []))), dc, dc, dc, dc, dc, dc, dT 13 ((.hdr 22) :: (sl 0 2 (eCc v21))), sl 2 16 (eCc v21), sl 18 4 (eCc v21) ++ (dT 12 []), dc]
theorem s_law18_BbrSteady_22_t {R : Type} (cp : Nat → Nat → Bool) (n : Nat) (p0 p1 p2 : Int) (v11 : SCc) (k : Ex → FF → Option R) : X cp n i_law18_BbrSteady_4 (fr_law18_BbrSteady_13 p0 p1 p2 v11) k = s_law18_BbrSteady_22 cp n p0 p1 p2 v11 (fun v21 => k .norm (fr_law18_BbrSteady_21 p0 p1 p2 v21)) (k .ret fr_law18_BbrSteady_11) := (show X cp n i_law18_BbrSteady_4 (fr_law18_BbrSteady_13 p0 p1 p2 v11) k = X cp n i_law18_BbrSteady_3 (fr_law18_BbrSteady_13 p0 p1 p2 v11) (blkT 0 k) from by kernel_rfl).trans ((s_law18_BbrSteady_20_t cp n p0 p1 p2 v11 (blkT 0 k)).trans (by kernel_rfl))
def fr_law18_BbrSteady_23 (p0 p1 p2 : Int) (v22 : SCc) : FF := [(tL p0) :: (tL p1) :: (tL p2) :: (dT 4 ((.ptr 125 0) :: (dT 8 []))), dc, dc, dc, dc, dc, dc, dT 13 ((.hdr 22) :: (sl 0 2 (eCc v22))), sl 2 16 (eCc v22), sl 18 4 (eCc v22) ++ (dT 12 []), dc]
theorem s_law18_BbrSteady_24_t {R : Type} (cp : Nat → Nat → Bool) (n : Nat) (p0 p1 p2 : Int) (v11 : SCc) (k : Ex → FF → Option R) : X cp n i_law18_BbrSteady_5 (fr_law18_BbrSteady_10 p0 p1 p2 v11) k = s_law18_BbrSteady_24 cp n p0 p1 p2 v11 (fun v22 => k .norm (fr_law18_BbrSteady_23 p0 p1 p2 v22)) (k .ret fr_law18_BbrSteady_11) := ((fun c => (show X cp n (.seq (.reg g_law18_BbrSteady_7) c) (fr_law18_BbrSteady_10 p0 p1 p2 v11) k = s_law18_BbrSteady_12 cp n p0 p1 p2 v11 (X cp n c (fr_law18_BbrSteady_13 p0 p1 p2 v11) k) from by kernel_rfl)) i_law18_BbrSteady_4).trans (congrArg (fun q => s_law18_BbrSteady_12 cp n p0 p1 p2 v11 q) ((s_law18_BbrSteady_22_t cp n p0 p1 p2 v11 k).trans (show s_law18_BbrSteady_22 cp n p0 p1 p2 v11 (fun v21 => k .norm (fr_law18_BbrSteady_21 p0 p1 p2 v21)) (k .ret fr_law18_BbrSteady_11) = s_law18_BbrSteady_22 cp n p0 p1 p2 v11 (fun v21 => k .norm (fr_law18_BbrSteady_23 p0 p1 p2 v21)) (k .ret fr_law18_BbrSteady_11) from by kernel_rfl)))
def fr_law18_BbrSteady_26 (v27 : Bool) : FF := [dT 6 ((tB v27) :: (dT 9 [])), dc, dc, dc, dc, dc, dc, dc, dc, dc, dc]
theorem s_law18_BbrSteady_25_t {R : Type} (cp : Nat → Nat → Bool) (n : Nat) (p0 p1 p2 : Int) (v22 : SCc) (k : Ex → FF → Option R) : X cp n i_law18_BbrSteady_6 (fr_law18_BbrSteady_23 p0 p1 p2 v22) k = s_law18_BbrSteady_25 cp n p0 p1 p2 v22 (fun v27 => k .ret (fr_law18_BbrSteady_26 v27)) := by kernel_rfl
def fr_law18_BbrSteady_27 (v28 : Bool) : FF := [dT 6 ((tB v28) :: (dT 9 [])), dc, dc, dc, dc, dc, dc, dc, dc, dc, dc]
theorem s_law18_BbrSteady_28_t {R : Type} (cp : Nat → Nat → Bool) (n : Nat) (p0 p1 p2 : Int) (v11 : SCc) (k : Ex → FF → Option R) : X cp n i_law18_BbrSteady_7 (fr_law18_BbrSteady_10 p0 p1 p2 v11) k = s_law18_BbrSteady_28 cp n p0 p1 p2 v11 (fun v28 => k .ret (fr_law18_BbrSteady_27 v28)) := (show X cp n i_law18_BbrSteady_7 (fr_law18_BbrSteady_10 p0 p1 p2 v11) k = X cp n i_law18_BbrSteady_5 (fr_law18_BbrSteady_10 p0 p1 p2 v11) (seqT (X cp n) i_law18_BbrSteady_6 k) from by kernel_rfl).trans ((show X cp n i_law18_BbrSteady_5 (fr_law18_BbrSteady_10 p0 p1 p2 v11) (seqT (X cp n) i_law18_BbrSteady_6 k) = s_law18_BbrSteady_24 cp n p0 p1 p2 v11 (fun v22 => X cp n i_law18_BbrSteady_6 (fr_law18_BbrSteady_23 p0 p1 p2 v22) k) (k .ret (fr_law18_BbrSteady_27 false)) from (s_law18_BbrSteady_24_t cp n p0 p1 p2 v11 (seqT (X cp n) i_law18_BbrSteady_6 k)).trans (by kernel_rfl)).trans (congrArg (fun q => s_law18_BbrSteady_24 cp n p0 p1 p2 v11 q (k .ret (fr_law18_BbrSteady_27 false))) (funext fun v22 => (s_law18_BbrSteady_25_t cp n p0 p1 p2 v22 k).trans (show s_law18_BbrSteady_25 cp n p0 p1 p2 v22 (fun v27 => k .ret (fr_law18_BbrSteady_26 v27)) = s_law18_BbrSteady_25 cp n p0 p1 p2 v22 (fun v27 => k .ret (fr_law18_BbrSteady_27 v27)) from by kernel_rfl))))
def fr_law18_BbrSteady_29 (v29 : Bool) : FF := [dT 6 ((tB v29) :: (dT 9 [])), dc, dc, dc, dc, dc, dc, dc, dc, dc, dc]
theorem s_law18_BbrSteady_30_t {R : Type} (cp : Nat → Nat → Bool) (n : Nat) (p0 p1 p2 : Int) (k : Ex → FF → Option R) : X cp n i_law18_BbrSteady_8 (fr_law18_BbrSteady_2 p0 p1 p2) k = s_law18_BbrSteady_30 cp n p0 p1 p2 (fun v29 => k .ret (fr_law18_BbrSteady_29 v29)) := ((fun c => (show X cp n (.seq (.fin (.reg g_law18_BbrSteady_3) [38, 39, 40, 41, 42] []) (.seq (.seq (.fin (.reg g_law18_BbrSteady_4) [8, 43] []) (.fin (.cond (.s 44) (.seq (.fin (.reg g_law18_BbrSteady_5) [0, 1, 2, 7, 44] [(125, 22)]) (.ret)) (.skip)) [44] [])) (.seq (.reg g_law18_BbrSteady_6) c))) (fr_law18_BbrSteady_2 p0 p1 p2) k = s_law18_BbrSteady_9 cp n p0 p1 p2 (fun v11 => X cp n c (fr_law18_BbrSteady_10 p0 p1 p2 v11) k) (k .ret (fr_law18_BbrSteady_29 false)) from by kernel_rfl)) i_law18_BbrSteady_7).trans (congrArg (fun q => s_law18_BbrSteady_9 cp n p0 p1 p2 q (k .ret (fr_law18_BbrSteady_29 false))) (funext fun v11 => (s_law18_BbrSteady_28_t cp n p0 p1 p2 v11 k).trans (show s_law18_BbrSteady_28 cp n p0 p1 p2 v11 (fun v28 => k .ret (fr_law18_BbrSteady_27 v28)) = s_law18_BbrSteady_28 cp n p0 p1 p2 v11 (fun v28 => k .ret (fr_law18_BbrSteady_29 v28)) from by kernel_rfl)))
def fr_law18_BbrSteady_31 (v30 : Bool) : FF := [dT 6 ((tB v30) :: (dT 9 [])), dc, dc, dc, dc, dc, dc, dc, dc, dc, dc]
theorem s_law18_BbrSteady_32_t {R : Type} (cp : Nat → Nat → Bool) (n : Nat) (p0 p1 p2 : Int) (k : Ex → FF → Option R) : X cp n i_law18_BbrSteady_9 (fr_law18_BbrSteady_2 p0 p1 p2) k = s_law18_BbrSteady_32 cp n p0 p1 p2 (fun v30 => k .ret (fr_law18_BbrSteady_31 v30)) := (show X cp n i_law18_BbrSteady_9 (fr_law18_BbrSteady_2 p0 p1 p2) k = X cp n i_law18_BbrSteady_1 (fr_law18_BbrSteady_2 p0 p1 p2) (seqT (X cp n) i_law18_BbrSteady_8 k) from by kernel_rfl).trans ((show X cp n i_law18_BbrSteady_1 (fr_law18_BbrSteady_2 p0 p1 p2) (seqT (X cp n) i_law18_BbrSteady_8 k) = s_law18_BbrSteady_8 cp n p0 p1 p2 (X cp n i_law18_BbrSteady_8 (fr_law18_BbrSteady_2 p0 p1 p2) k) (fun v4 => k .ret (fr_law18_BbrSteady_31 v4)) from (s_law18_BbrSteady_8_t cp n p0 p1 p2 (seqT (X cp n) i_law18_BbrSteady_8 k)).trans (by kernel_rfl)).trans (congrArg (fun q => s_law18_BbrSteady_8 cp n p0 p1 p2 q (fun v4 => k .ret (fr_law18_BbrSteady_31 v4))) ((s_law18_BbrSteady_30_t cp n p0 p1 p2 k).trans (show s_law18_BbrSteady_30 cp n p0 p1 p2 (fun v29 => k .ret (fr_law18_BbrSteady_29 v29)) = s_law18_BbrSteady_30 cp n p0 p1 p2 (fun v29 => k .ret (fr_law18_BbrSteady_31 v29)) from by kernel_rfl))))
def fr_law18_BbrSteady_33 (v31 : Bool) : FF := [dT 6 ((tB v31) :: (dT 9 [])), dc, dc, dc, dc, dc, dc, dc, dc, dc, dc]
theorem s_law18_BbrSteady_34_t {R : Type} (cp : Nat → Nat → Bool) (n : Nat) (p0 p1 p2 : Int) (k : Ex → FF → Option R) : X cp n i_law18_BbrSteady_10 (fr_law18_BbrSteady_2 p0 p1 p2) k = s_law18_BbrSteady_34 cp n p0 p1 p2 (fun v31 => k .ret (fr_law18_BbrSteady_33 v31)) := ((fun c => (show X cp n (.seq (.fin (.reg g_law18_BbrSteady_0) [6] []) c) (fr_law18_BbrSteady_2 p0 p1 p2) k = s_law18_BbrSteady_1 cp n p0 p1 p2 (X cp n c (fr_law18_BbrSteady_2 p0 p1 p2) k) from by kernel_rfl)) i_law18_BbrSteady_9).trans (congrArg (fun q => s_law18_BbrSteady_1 cp n p0 p1 p2 q) ((s_law18_BbrSteady_32_t cp n p0 p1 p2 k).trans (show s_law18_BbrSteady_32 cp n p0 p1 p2 (fun v30 => k .ret (fr_law18_BbrSteady_31 v30)) = s_law18_BbrSteady_32 cp n p0 p1 p2 (fun v30 => k .ret (fr_law18_BbrSteady_33 v30)) from by kernel_rfl)))
theorem run_law18_BbrSteady {R : Type} (cp : Nat → Nat → Bool) (n : Nat) (p0 p1 p2 : Int) (k : Ret2 RW → Option R) : G_law18_BbrSteady cp (n + 1) p0 p1 p2 (fun r0 => k ⟨(tB r0), []⟩) = run2 U cp (callP cp n) n fn_law18_BbrSteady [(tL p0), (tL p1), (tL p2)] [] k := ((X_run (f := fn_law18_BbrSteady) (av := [(tL p0), (tL p1), (tL p2)]) (cells := []) (code := i_law18_BbrSteady_10) (fr := (fr_law18_BbrSteady_2 p0 p1 p2)) (k := k) (by kernel_rfl) (fun K => by kernel_rfl)).trans ((s_law18_BbrSteady_34_t cp n p0 p1 p2 (finK2 fn_law18_BbrSteady k)).trans (by kernel_rfl))).symm
def tbl : Nat → Option IFn
  | 20 => some (fn_reno_New.lo U)
  | 9 => some (fn_bbr_New.lo U)
  | 17 => some (fn_bbr_within.lo U)
  | 44 => some (fn_filter_may.lo U)
  | 45 => some (fn_filter_beats.lo U)
  | 36 => some (fn_filter_Check.lo U)
  | 1007 => some (fn_bbr_ctl_entries.lo U)
  | 12 => some (fn_bbr_Check.lo U)
  | 1011 => some (fn_bbr_ctl_round.lo U)
  | 40 => some (fn_filter_Best.lo U)
  | 1013 => some (fn_bbr_ctl_bandwidth.lo U)
  | 37 => some (fn_filter_Put.lo U)
  | 1012 => some (fn_bbr_ctl_speed.lo U)
  | 1016 => some (fn_bbr_ctl_shortest.lo U)
  | 1017 => some (fn_bbr_ctl_full.lo U)
  | 46 => some (fn_math_bits_Mul64.lo U)
  | 49 => some (fn_math_bits_Len64.lo U)
  | 48 => some (fn_math_bits_LeadingZeros64.lo U)
  | 47 => some (fn_math_bits_Div64.lo U)
  | 41 => some (fn_seq_MulDiv.lo U)
  | 1019 => some (fn_bbr_ctl_product.lo U)
  | 1025 => some (fn_bbr_ctl_probe.lo U)
  | 1018 => some (fn_bbr_ctl_cycle.lo U)
  | 1026 => some (fn_bbr_ctl_ask.lo U)
  | 39 => some (fn_seq_Clamp.lo U)
  | 1027 => some (fn_bbr_ctl_window.lo U)
  | 14 => some (fn_bbr_Acked.lo U)
  | 7 => some (fn_bbr_Timeout.lo U)
  | 15 => some (fn_bbr_Bandwidth.lo U)
  | 16 => some (fn_bbr_Product.lo U)
  | 23 => some (fn_bbr_Gain.lo U)
  | 13 => some (fn_law18_heads.lo U)
  | 5 => some (fn_law18_BbrSteady.lo U)
  | _ => none
theorem chk_reno_New : chkFn Try.prog tbl (fn_reno_New.lo U) = true := by kernel_rfl
theorem chk_bbr_New : chkFn Try.prog tbl (fn_bbr_New.lo U) = true := by kernel_rfl
theorem chk_bbr_within : chkFn Try.prog tbl (fn_bbr_within.lo U) = true := by kernel_rfl
theorem chk_filter_may : chkFn Try.prog tbl (fn_filter_may.lo U) = true := by kernel_rfl
theorem chk_filter_beats : chkFn Try.prog tbl (fn_filter_beats.lo U) = true := by kernel_rfl
theorem chk_filter_Check : chkFn Try.prog tbl (fn_filter_Check.lo U) = true := by kernel_rfl
theorem chk_bbr_ctl_entries : chkFn Try.prog tbl (fn_bbr_ctl_entries.lo U) = true := by kernel_rfl
theorem chk_bbr_Check : chkFn Try.prog tbl (fn_bbr_Check.lo U) = true := by kernel_rfl
theorem chk_bbr_ctl_round : chkFn Try.prog tbl (fn_bbr_ctl_round.lo U) = true := by kernel_rfl
theorem chk_filter_Best : chkFn Try.prog tbl (fn_filter_Best.lo U) = true := by kernel_rfl
theorem chk_bbr_ctl_bandwidth : chkFn Try.prog tbl (fn_bbr_ctl_bandwidth.lo U) = true := by kernel_rfl
theorem chk_filter_Put : chkFn Try.prog tbl (fn_filter_Put.lo U) = true := by kernel_rfl
theorem chk_bbr_ctl_speed : chkFn Try.prog tbl (fn_bbr_ctl_speed.lo U) = true := by kernel_rfl
theorem chk_bbr_ctl_shortest : chkFn Try.prog tbl (fn_bbr_ctl_shortest.lo U) = true := by kernel_rfl
theorem chk_bbr_ctl_full : chkFn Try.prog tbl (fn_bbr_ctl_full.lo U) = true := by kernel_rfl
theorem chk_math_bits_Mul64 : chkFn Try.prog tbl (fn_math_bits_Mul64.lo U) = true := by kernel_rfl
theorem chk_math_bits_Len64 : chkFn Try.prog tbl (fn_math_bits_Len64.lo U) = true := by kernel_rfl
theorem chk_math_bits_LeadingZeros64 : chkFn Try.prog tbl (fn_math_bits_LeadingZeros64.lo U) = true := by kernel_rfl
theorem chk_math_bits_Div64 : chkFn Try.prog tbl (fn_math_bits_Div64.lo U) = true := by kernel_rfl
theorem chk_seq_MulDiv : chkFn Try.prog tbl (fn_seq_MulDiv.lo U) = true := by kernel_rfl
theorem chk_bbr_ctl_product : chkFn Try.prog tbl (fn_bbr_ctl_product.lo U) = true := by kernel_rfl
theorem chk_bbr_ctl_probe : chkFn Try.prog tbl (fn_bbr_ctl_probe.lo U) = true := by kernel_rfl
theorem chk_bbr_ctl_cycle : chkFn Try.prog tbl (fn_bbr_ctl_cycle.lo U) = true := by kernel_rfl
theorem chk_bbr_ctl_ask : chkFn Try.prog tbl (fn_bbr_ctl_ask.lo U) = true := by kernel_rfl
theorem chk_seq_Clamp : chkFn Try.prog tbl (fn_seq_Clamp.lo U) = true := by kernel_rfl
theorem chk_bbr_ctl_window : chkFn Try.prog tbl (fn_bbr_ctl_window.lo U) = true := by kernel_rfl
theorem chk_bbr_Acked : chkFn Try.prog tbl (fn_bbr_Acked.lo U) = true := by kernel_rfl
theorem chk_bbr_Timeout : chkFn Try.prog tbl (fn_bbr_Timeout.lo U) = true := by kernel_rfl
theorem chk_bbr_Bandwidth : chkFn Try.prog tbl (fn_bbr_Bandwidth.lo U) = true := by kernel_rfl
theorem chk_bbr_Product : chkFn Try.prog tbl (fn_bbr_Product.lo U) = true := by kernel_rfl
theorem chk_bbr_Gain : chkFn Try.prog tbl (fn_bbr_Gain.lo U) = true := by kernel_rfl
theorem chk_law18_heads : chkFn Try.prog tbl (fn_law18_heads.lo U) = true := by kernel_rfl
theorem chk_law18_BbrSteady : chkFn Try.prog tbl (fn_law18_BbrSteady.lo U) = true := by kernel_rfl
theorem chkAll : ∀ (id : Nat) (f : IFn), tbl id = some f → chkFn Try.prog tbl f = true := by
  intro id f h
  unfold tbl at h
  split at h
  · cases h; exact chk_reno_New
  · cases h; exact chk_bbr_New
  · cases h; exact chk_bbr_within
  · cases h; exact chk_filter_may
  · cases h; exact chk_filter_beats
  · cases h; exact chk_filter_Check
  · cases h; exact chk_bbr_ctl_entries
  · cases h; exact chk_bbr_Check
  · cases h; exact chk_bbr_ctl_round
  · cases h; exact chk_filter_Best
  · cases h; exact chk_bbr_ctl_bandwidth
  · cases h; exact chk_filter_Put
  · cases h; exact chk_bbr_ctl_speed
  · cases h; exact chk_bbr_ctl_shortest
  · cases h; exact chk_bbr_ctl_full
  · cases h; exact chk_math_bits_Mul64
  · cases h; exact chk_math_bits_Len64
  · cases h; exact chk_math_bits_LeadingZeros64
  · cases h; exact chk_math_bits_Div64
  · cases h; exact chk_seq_MulDiv
  · cases h; exact chk_bbr_ctl_product
  · cases h; exact chk_bbr_ctl_probe
  · cases h; exact chk_bbr_ctl_cycle
  · cases h; exact chk_bbr_ctl_ask
  · cases h; exact chk_seq_Clamp
  · cases h; exact chk_bbr_ctl_window
  · cases h; exact chk_bbr_Acked
  · cases h; exact chk_bbr_Timeout
  · cases h; exact chk_bbr_Bandwidth
  · cases h; exact chk_bbr_Product
  · cases h; exact chk_bbr_Gain
  · cases h; exact chk_law18_heads
  · cases h; exact chk_law18_BbrSteady
  · cases h
theorem dI_ok {kd : IntKind} {y : TV RW} {a : Int} (h : dI kd y = some a) : y = .sc (.int kd a) := by
  unfold dI at h
  split at h
  · obtain ⟨h1, h2⟩ := cond_some h
    cases h2
    rw [of_decide_eq_true h1]
  · cases h
theorem dB_ok {y : TV RW} {a : Bool} (h : dB y = some a) : y = .sc (.bool a) := by
  unfold dB at h
  split at h <;> cases h
  rfl
theorem dS_ok {y : TV RW} {a : ByteArray} (h : dS y = some a) : y = .sc (.string a) := by
  unfold dS at h
  split at h <;> cases h
  rfl
theorem dA_ok {y : TV RW} {a : Fr} (h : dA y = some a) : y = .agg a := by
  unfold dA at h
  split at h <;> cases h
  rfl
theorem dOne_ok {y : Fr} {a : TV RW} (h : dOne y = some a) : y = [a] := by
  unfold dOne at h
  split at h <;> cases h
  rfl
theorem dP_ok {a b : Nat} {y : TV RW} {u : Unit} (h : dP a b y = some u) : y = .ptr a b := by
  unfold dP at h
  split at h
  · obtain ⟨h1, h2⟩ := cond_some h
    simp only [Bool.and_eq_true] at h1
    rw [nbeq h1.1, nbeq h1.2]
  · cases h
theorem dC_ok {a : Nat} {b : List (Nat × Nat)} {y : TV RW} {u : Unit} (h : dC a b y = some u) : y = .clo a b := by
  unfold dC at h
  split at h
  · obtain ⟨h1, h2⟩ := cond_some h
    simp only [Bool.and_eq_true] at h1
    rw [nbeq h1.1, of_decide_eq_true h1.2]
  · cases h
theorem dREntry_ok {fl : Bool} {y : TV RW} {a : List SEntry} (h : dREntry fl y = some a) : y = .row fl (.rEntry a) := by
  unfold dREntry at h
  split at h
  · obtain ⟨h1, h2⟩ := cond_some h
    cases h2
    rw [eq_of_beq h1]
  · cases h
theorem dRint_ok {fl : Bool} {y : TV RW} {a : List Int} (h : dRint fl y = some a) : y = .row fl (.rint a) := by
  unfold dRint at h
  split at h
  · obtain ⟨h1, h2⟩ := cond_some h
    cases h2
    rw [eq_of_beq h1]
  · cases h
theorem dCc_ok {L : Fr} {a : SCc} (h : dCc L = some a) : L = eCc a := by
  unfold dCc at h
  split at h
  · simp only [Option.bind_eq_some_iff] at h
    obtain ⟨a0, h0, a1, h1, a2, h2, a3, h3, a4, h4, a5, h5, a6, h6, a7, h7, a8, h8, a9, h9, a10, h10, a11, h11, a12, h12, a13, h13, a14, h14, a15, h15, a16, h16, a17, h17, a18, h18, a19, h19, a20, h20, a21, h21, h⟩ := h
    cases h
    obtain rfl := dI_ok h0
    obtain rfl := dI_ok h1
    obtain rfl := dI_ok h2
    obtain rfl := dI_ok h3
    obtain rfl := dI_ok h4
    obtain rfl := dI_ok h5
    obtain rfl := dI_ok h6
    obtain rfl := dI_ok h7
    obtain rfl := dI_ok h8
    obtain rfl := dI_ok h9
    obtain rfl := dI_ok h10
    obtain rfl := dREntry_ok h11
    obtain rfl := dI_ok h12
    obtain rfl := dI_ok h13
    obtain rfl := dI_ok h14
    obtain rfl := dI_ok h15
    obtain rfl := dI_ok h16
    obtain rfl := dI_ok h17
    obtain rfl := dI_ok h18
    obtain rfl := dI_ok h19
    obtain rfl := dI_ok h20
    obtain rfl := dI_ok h21
    rfl
  · cases h
theorem dCct_ok {L : Fr} {a : SCc} (h : dCct L = some a) : L = eCct a := by
  unfold dCct at h
  split at h
  · simp only [Option.bind_eq_some_iff] at h
    obtain ⟨a0, h0, a1, h1, a2, h2, a3, h3, a4, h4, a5, h5, a6, h6, a7, h7, a8, h8, a9, h9, a10, h10, a11, h11, a12, h12, a13, h13, a14, h14, a15, h15, a16, h16, a17, h17, a18, h18, a19, h19, a20, h20, a21, h21, h⟩ := h
    cases h
    obtain rfl := dI_ok h0
    obtain rfl := dI_ok h1
    obtain rfl := dI_ok h2
    obtain rfl := dI_ok h3
    obtain rfl := dI_ok h4
    obtain rfl := dI_ok h5
    obtain rfl := dI_ok h6
    obtain rfl := dI_ok h7
    obtain rfl := dI_ok h8
    obtain rfl := dI_ok h9
    obtain rfl := dI_ok h10
    obtain rfl := dREntry_ok h11
    obtain rfl := dI_ok h12
    obtain rfl := dI_ok h13
    obtain rfl := dI_ok h14
    obtain rfl := dI_ok h15
    obtain rfl := dI_ok h16
    obtain rfl := dI_ok h17
    obtain rfl := dI_ok h18
    obtain rfl := dI_ok h19
    obtain rfl := dI_ok h20
    obtain rfl := dI_ok h21
    rfl
  · cases h
theorem dEntry_ok {L : Fr} {a : SEntry} (h : dEntry L = some a) : L = eEntry a := by
  unfold dEntry at h
  split at h
  · simp only [Option.bind_eq_some_iff] at h
    obtain ⟨a0, h0, a1, h1, h⟩ := h
    cases h
    obtain rfl := dI_ok h0
    obtain rfl := dI_ok h1
    rfl
  · cases h
theorem dSample_ok {L : Fr} {a : SSample} (h : dSample L = some a) : L = eSample a := by
  unfold dSample at h
  split at h
  · simp only [Option.bind_eq_some_iff] at h
    obtain ⟨a0, h0, a1, h1, a2, h2, a3, h3, a4, h4, a5, h5, a6, h6, a7, h7, h⟩ := h
    cases h
    obtain rfl := dI_ok h0
    obtain rfl := dI_ok h1
    obtain rfl := dI_ok h2
    obtain rfl := dI_ok h3
    obtain rfl := dB_ok h4
    obtain rfl := dI_ok h5
    obtain rfl := dI_ok h6
    obtain rfl := dI_ok h7
    rfl
  · cases h
theorem dctl_ok {L : Fr} {a : Sctl} (h : dctl L = some a) : L = ectl a := by
  unfold dctl at h
  split at h
  · simp only [Option.bind_eq_some_iff] at h
    obtain ⟨a0, h0, a1, h1, a2, h2, a3, h3, a4, h4, a5, h5, a6, h6, a7, h7, a8, h8, a9, h9, a10, h10, a11, h11, a12, h12, a13, h13, a14, h14, a15, h15, a16, h16, a17, h17, a18, h18, a19, h19, a20, h20, a21, h21, h⟩ := h
    cases h
    obtain rfl := dI_ok h0
    obtain rfl := dI_ok h1
    obtain rfl := dI_ok h2
    obtain rfl := dI_ok h3
    obtain rfl := dI_ok h4
    obtain rfl := dI_ok h5
    obtain rfl := dI_ok h6
    obtain rfl := dI_ok h7
    obtain rfl := dI_ok h8
    obtain rfl := dI_ok h9
    obtain rfl := dI_ok h10
    obtain rfl := dREntry_ok h11
    obtain rfl := dI_ok h12
    obtain rfl := dI_ok h13
    obtain rfl := dI_ok h14
    obtain rfl := dI_ok h15
    obtain rfl := dI_ok h16
    obtain rfl := dI_ok h17
    obtain rfl := dI_ok h18
    obtain rfl := dI_ok h19
    obtain rfl := dI_ok h20
    obtain rfl := dI_ok h21
    rfl
  · cases h
theorem dctlt_ok {L : Fr} {a : Sctl} (h : dctlt L = some a) : L = ectlt a := by
  unfold dctlt at h
  split at h
  · simp only [Option.bind_eq_some_iff] at h
    obtain ⟨a0, h0, a1, h1, a2, h2, a3, h3, a4, h4, a5, h5, a6, h6, a7, h7, a8, h8, a9, h9, a10, h10, a11, h11, a12, h12, a13, h13, a14, h14, a15, h15, a16, h16, a17, h17, a18, h18, a19, h19, a20, h20, a21, h21, h⟩ := h
    cases h
    obtain rfl := dI_ok h0
    obtain rfl := dI_ok h1
    obtain rfl := dI_ok h2
    obtain rfl := dI_ok h3
    obtain rfl := dI_ok h4
    obtain rfl := dI_ok h5
    obtain rfl := dI_ok h6
    obtain rfl := dI_ok h7
    obtain rfl := dI_ok h8
    obtain rfl := dI_ok h9
    obtain rfl := dI_ok h10
    obtain rfl := dREntry_ok h11
    obtain rfl := dI_ok h12
    obtain rfl := dI_ok h13
    obtain rfl := dI_ok h14
    obtain rfl := dI_ok h15
    obtain rfl := dI_ok h16
    obtain rfl := dI_ok h17
    obtain rfl := dI_ok h18
    obtain rfl := dI_ok h19
    obtain rfl := dI_ok h20
    obtain rfl := dI_ok h21
    rfl
  · cases h
theorem pEntry_ok : ∀ {L : Fr} {xs : List SEntry}, pEntry_ L = some xs → TV.los U L = (xs.map cEntry).flatten
  | [], xs, h => by cases h; rfl
  | [_], xs, h => by cases h
  | y0 :: y1 :: r, xs, h => by
    simp only [pEntry_, Option.bind_eq_some_iff] at h
    obtain ⟨a0, h0, a1, h1, xs', h', h⟩ := h
    cases h
    have ih := pEntry_ok h'
    obtain rfl := dI_ok h0
    obtain rfl := dI_ok h1
    show _ :: _ :: TV.los U r = _
    rw [ih]; rfl
theorem pint_ok : ∀ {L : Fr} {xs : List Int}, pint_ L = some xs → TV.los U L = (xs.map cint).flatten
  | [], xs, h => by cases h; rfl
  | y0 :: r, xs, h => by
    simp only [pint_, Option.bind_eq_some_iff] at h
    obtain ⟨a0, h0, xs', h', h⟩ := h
    cases h
    have ih := pint_ok h'
    obtain rfl := dI_ok h0
    show _ :: TV.los U r = _
    rw [ih]; rfl
theorem UOk : UniOk U where
  get := fun r i => match r with
    | .rEntry xs => by kernel_rfl
    | .rint xs => by kernel_rfl
  app := fun r q x h => by cases r <;> cases q <;> first | (cases h; done) | (cases h; exact ⟨rfl, rfl, List.length_append, (rg_app (c := cEntry) (z := zEntry)).symm⟩) | (cases h; exact ⟨rfl, rfl, List.length_append, (rg_app (c := cint) (z := zint)).symm⟩)
  sub := fun lo n r h => by cases r <;> first | exact ⟨rfl, sub_len h, (rg_sub (c := cEntry) (z := zEntry) h).symm⟩ | exact ⟨rfl, sub_len h, (rg_sub (c := cint) (z := zint) h).symm⟩
  lit := fun t n L r h => by
    unfold U at h
    dsimp only at h
    split at h
    · obtain ⟨xs, h1, rfl, rfl⟩ := bind_lit h
      have e := pEntry_ok h1
      exact ⟨rfl, rfl, by rw [e]; exact (rg_lit (c := cEntry) (sz := 2) (z := zEntry) (fun _ => rfl)).symm, by rw [e]; exact all_flat (fun _ => rfl) xs⟩
    · obtain ⟨xs, h1, rfl, rfl⟩ := bind_lit h
      have e := pint_ok h1
      exact ⟨rfl, rfl, by rw [e]; exact (rg_lit (c := cint) (sz := 1) (z := zint) (fun _ => rfl)).symm, by rw [e]; exact all_flat (fun _ => rfl) xs⟩
    · cases h
theorem ok_reno_New {R : Type} {r : R} : ∀ {n : Nat}, (∀ m, n = m + 1 → CallOk2 (R := R) U (callP capB m) (runF tbl m)) → ∀ {av : Fr} {cs : List Fr} {k : Ret2 RW → Option R}, ca_reno_New capB n av cs k = some r → ∃ q : Ret2 RW, runF tbl n 20 (TV.los U av) (cs.map (TV.los U)) = some (q.lo U) ∧ k q = some r := by
  intro n ih av cs k h
  unfold ca_reno_New at h
  split at h
  · simp only [Option.bind_eq_some_iff] at h
    obtain ⟨p0, h0, p1, h1, h⟩ := h
    obtain rfl := dI_ok h0
    obtain rfl := dI_ok h1
    cases n with
    | zero => cases h
    | succ n =>
      exact run2_ok UOk (ih n rfl) (f := fn_reno_New) rfl ((run_reno_New capB n p0 p1 k).symm.trans h)
  · cases h
theorem ok_bbr_New {R : Type} {r : R} : ∀ {n : Nat}, (∀ m, n = m + 1 → CallOk2 (R := R) U (callP capB m) (runF tbl m)) → ∀ {av : Fr} {cs : List Fr} {k : Ret2 RW → Option R}, ca_bbr_New capB n av cs k = some r → ∃ q : Ret2 RW, runF tbl n 9 (TV.los U av) (cs.map (TV.los U)) = some (q.lo U) ∧ k q = some r := by
  intro n ih av cs k h
  unfold ca_bbr_New at h
  split at h
  · simp only [Option.bind_eq_some_iff] at h
    obtain ⟨p0, h0, p1, h1, h⟩ := h
    obtain rfl := dI_ok h0
    obtain rfl := dI_ok h1
    cases n with
    | zero => cases h
    | succ n =>
      exact run2_ok UOk (ih n rfl) (f := fn_bbr_New) rfl ((run_bbr_New capB n p0 p1 k).symm.trans h)
  · cases h
theorem ok_bbr_within {R : Type} {r : R} : ∀ {n : Nat}, (∀ m, n = m + 1 → CallOk2 (R := R) U (callP capB m) (runF tbl m)) → ∀ {av : Fr} {cs : List Fr} {k : Ret2 RW → Option R}, ca_bbr_within capB n av cs k = some r → ∃ q : Ret2 RW, runF tbl n 17 (TV.los U av) (cs.map (TV.los U)) = some (q.lo U) ∧ k q = some r := by
  intro n ih av cs k h
  unfold ca_bbr_within at h
  split at h
  · simp only [Option.bind_eq_some_iff] at h
    obtain ⟨p0, h0, p1, h1, h⟩ := h
    obtain rfl := dI_ok h0
    obtain rfl := dRint_ok h1
    cases n with
    | zero => cases h
    | succ n =>
      exact run2_ok UOk (ih n rfl) (f := fn_bbr_within) rfl ((run_bbr_within capB n p0 p1 k).symm.trans h)
  · cases h
theorem ok_filter_may {R : Type} {r : R} : ∀ {n : Nat}, (∀ m, n = m + 1 → CallOk2 (R := R) U (callP capB m) (runF tbl m)) → ∀ {av : Fr} {cs : List Fr} {k : Ret2 RW → Option R}, ca_filter_may capB n av cs k = some r → ∃ q : Ret2 RW, runF tbl n 44 (TV.los U av) (cs.map (TV.los U)) = some (q.lo U) ∧ k q = some r := by
  intro n ih av cs k h
  unfold ca_filter_may at h
  split at h
  · simp only [Option.bind_eq_some_iff] at h
    obtain ⟨c0_, h0, p0, g0, h⟩ := h
    obtain rfl := dA_ok h0
    obtain rfl := dEntry_ok g0
    cases n with
    | zero => cases h
    | succ n =>
      exact run2_ok UOk (ih n rfl) (f := fn_filter_may) rfl ((run_filter_may capB n p0 k).symm.trans h)
  · cases h
theorem ok_filter_beats {R : Type} {r : R} : ∀ {n : Nat}, (∀ m, n = m + 1 → CallOk2 (R := R) U (callP capB m) (runF tbl m)) → ∀ {av : Fr} {cs : List Fr} {k : Ret2 RW → Option R}, ca_filter_beats capB n av cs k = some r → ∃ q : Ret2 RW, runF tbl n 45 (TV.los U av) (cs.map (TV.los U)) = some (q.lo U) ∧ k q = some r := by
  intro n ih av cs k h
  unfold ca_filter_beats at h
  split at h
  · simp only [Option.bind_eq_some_iff] at h
    obtain ⟨p0, h0, p1, h1, p2, h2, h⟩ := h
    obtain rfl := dI_ok h0
    obtain rfl := dI_ok h1
    obtain rfl := dB_ok h2
    cases n with
    | zero => cases h
    | succ n =>
      exact run2_ok UOk (ih n rfl) (f := fn_filter_beats) rfl ((run_filter_beats capB n p0 p1 p2 k).symm.trans h)
  · cases h
theorem ok_filter_Check {R : Type} {r : R} : ∀ {n : Nat}, (∀ m, n = m + 1 → CallOk2 (R := R) U (callP capB m) (runF tbl m)) → ∀ {av : Fr} {cs : List Fr} {k : Ret2 RW → Option R}, ca_filter_Check capB n av cs k = some r → ∃ q : Ret2 RW, runF tbl n 36 (TV.los U av) (cs.map (TV.los U)) = some (q.lo U) ∧ k q = some r := by
  intro n ih av cs k h
  unfold ca_filter_Check at h
  split at h
  · simp only [Option.bind_eq_some_iff] at h
    obtain ⟨p0, h0, p1, h1, h⟩ := h
    obtain rfl := dREntry_ok h0
    obtain rfl := dB_ok h1
    cases n with
    | zero => cases h
    | succ n =>
      exact run2_ok UOk (ih n rfl) (f := fn_filter_Check) rfl ((run_filter_Check capB n p0 p1 k).symm.trans h)
  · cases h
theorem ok_bbr_ctl_entries {R : Type} {r : R} : ∀ {n : Nat}, (∀ m, n = m + 1 → CallOk2 (R := R) U (callP capB m) (runF tbl m)) → ∀ {av : Fr} {cs : List Fr} {k : Ret2 RW → Option R}, ca_bbr_ctl_entries capB n av cs k = some r → ∃ q : Ret2 RW, runF tbl n 1007 (TV.los U av) (cs.map (TV.los U)) = some (q.lo U) ∧ k q = some r := by
  intro n ih av cs k h
  unfold ca_bbr_ctl_entries at h
  split at h
  · simp only [Option.bind_eq_some_iff] at h
    obtain ⟨u0, h0, q0, i0, h⟩ := h
    obtain rfl := dP_ok h0
    obtain rfl := dctl_ok i0
    cases n with
    | zero => cases h
    | succ n =>
      exact run2_ok UOk (ih n rfl) (f := fn_bbr_ctl_entries) rfl ((run_bbr_ctl_entries capB n q0 k).symm.trans h)
  · cases h
theorem ok_bbr_Check {R : Type} {r : R} : ∀ {n : Nat}, (∀ m, n = m + 1 → CallOk2 (R := R) U (callP capB m) (runF tbl m)) → ∀ {av : Fr} {cs : List Fr} {k : Ret2 RW → Option R}, ca_bbr_Check capB n av cs k = some r → ∃ q : Ret2 RW, runF tbl n 12 (TV.los U av) (cs.map (TV.los U)) = some (q.lo U) ∧ k q = some r := by
  intro n ih av cs k h
  unfold ca_bbr_Check at h
  split at h
  · simp only [Option.bind_eq_some_iff] at h
    obtain ⟨c0_, h0, p0, g0, h⟩ := h
    obtain rfl := dA_ok h0
    obtain rfl := dCc_ok g0
    cases n with
    | zero => cases h
    | succ n =>
      exact run2_ok UOk (ih n rfl) (f := fn_bbr_Check) rfl ((run_bbr_Check capB n p0 k).symm.trans h)
  · cases h
theorem ok_bbr_ctl_round {R : Type} {r : R} : ∀ {n : Nat}, (∀ m, n = m + 1 → CallOk2 (R := R) U (callP capB m) (runF tbl m)) → ∀ {av : Fr} {cs : List Fr} {k : Ret2 RW → Option R}, ca_bbr_ctl_round capB n av cs k = some r → ∃ q : Ret2 RW, runF tbl n 1011 (TV.los U av) (cs.map (TV.los U)) = some (q.lo U) ∧ k q = some r := by
  intro n ih av cs k h
  unfold ca_bbr_ctl_round at h
  split at h
  · simp only [Option.bind_eq_some_iff] at h
    obtain ⟨u0, h0, c1_, h1, p1, g1, q0, i0, h⟩ := h
    obtain rfl := dP_ok h0
    obtain rfl := dA_ok h1
    obtain rfl := dSample_ok g1
    obtain rfl := dctl_ok i0
    cases n with
    | zero => cases h
    | succ n =>
      exact run2_ok UOk (ih n rfl) (f := fn_bbr_ctl_round) rfl ((run_bbr_ctl_round capB n p1 q0 k).symm.trans h)
  · cases h
theorem ok_filter_Best {R : Type} {r : R} : ∀ {n : Nat}, (∀ m, n = m + 1 → CallOk2 (R := R) U (callP capB m) (runF tbl m)) → ∀ {av : Fr} {cs : List Fr} {k : Ret2 RW → Option R}, ca_filter_Best capB n av cs k = some r → ∃ q : Ret2 RW, runF tbl n 40 (TV.los U av) (cs.map (TV.los U)) = some (q.lo U) ∧ k q = some r := by
  intro n ih av cs k h
  unfold ca_filter_Best at h
  split at h
  · simp only [Option.bind_eq_some_iff] at h
    obtain ⟨p0, h0, h⟩ := h
    obtain rfl := dREntry_ok h0
    cases n with
    | zero => cases h
    | succ n =>
      exact run2_ok UOk (ih n rfl) (f := fn_filter_Best) rfl ((run_filter_Best capB n p0 k).symm.trans h)
  · cases h
theorem ok_bbr_ctl_bandwidth {R : Type} {r : R} : ∀ {n : Nat}, (∀ m, n = m + 1 → CallOk2 (R := R) U (callP capB m) (runF tbl m)) → ∀ {av : Fr} {cs : List Fr} {k : Ret2 RW → Option R}, ca_bbr_ctl_bandwidth capB n av cs k = some r → ∃ q : Ret2 RW, runF tbl n 1013 (TV.los U av) (cs.map (TV.los U)) = some (q.lo U) ∧ k q = some r := by
  intro n ih av cs k h
  unfold ca_bbr_ctl_bandwidth at h
  split at h
  · simp only [Option.bind_eq_some_iff] at h
    obtain ⟨u0, h0, q0, i0, h⟩ := h
    obtain rfl := dP_ok h0
    obtain rfl := dctl_ok i0
    cases n with
    | zero => cases h
    | succ n =>
      exact run2_ok UOk (ih n rfl) (f := fn_bbr_ctl_bandwidth) rfl ((run_bbr_ctl_bandwidth capB n q0 k).symm.trans h)
  · cases h
theorem ok_filter_Put {R : Type} {r : R} : ∀ {n : Nat}, (∀ m, n = m + 1 → CallOk2 (R := R) U (callP capB m) (runF tbl m)) → ∀ {av : Fr} {cs : List Fr} {k : Ret2 RW → Option R}, ca_filter_Put capB n av cs k = some r → ∃ q : Ret2 RW, runF tbl n 37 (TV.los U av) (cs.map (TV.los U)) = some (q.lo U) ∧ k q = some r := by
  intro n ih av cs k h
  unfold ca_filter_Put at h
  split at h
  · simp only [Option.bind_eq_some_iff] at h
    obtain ⟨p0, h0, p1, h1, p2, h2, p3, h3, p4, h4, h⟩ := h
    obtain rfl := dREntry_ok h0
    obtain rfl := dI_ok h1
    obtain rfl := dI_ok h2
    obtain rfl := dI_ok h3
    obtain rfl := dB_ok h4
    cases n with
    | zero => cases h
    | succ n =>
      exact run2_ok UOk (ih n rfl) (f := fn_filter_Put) rfl ((run_filter_Put capB n p0 p1 p2 p3 p4 k).symm.trans h)
  · cases h
theorem ok_bbr_ctl_speed {R : Type} {r : R} : ∀ {n : Nat}, (∀ m, n = m + 1 → CallOk2 (R := R) U (callP capB m) (runF tbl m)) → ∀ {av : Fr} {cs : List Fr} {k : Ret2 RW → Option R}, ca_bbr_ctl_speed capB n av cs k = some r → ∃ q : Ret2 RW, runF tbl n 1012 (TV.los U av) (cs.map (TV.los U)) = some (q.lo U) ∧ k q = some r := by
  intro n ih av cs k h
  unfold ca_bbr_ctl_speed at h
  split at h
  · simp only [Option.bind_eq_some_iff] at h
    obtain ⟨u0, h0, c1_, h1, p1, g1, q0, i0, h⟩ := h
    obtain rfl := dP_ok h0
    obtain rfl := dA_ok h1
    obtain rfl := dSample_ok g1
    obtain rfl := dctl_ok i0
    cases n with
    | zero => cases h
    | succ n =>
      exact run2_ok UOk (ih n rfl) (f := fn_bbr_ctl_speed) rfl ((run_bbr_ctl_speed capB n p1 q0 k).symm.trans h)
  · cases h
theorem ok_bbr_ctl_shortest {R : Type} {r : R} : ∀ {n : Nat}, (∀ m, n = m + 1 → CallOk2 (R := R) U (callP capB m) (runF tbl m)) → ∀ {av : Fr} {cs : List Fr} {k : Ret2 RW → Option R}, ca_bbr_ctl_shortest capB n av cs k = some r → ∃ q : Ret2 RW, runF tbl n 1016 (TV.los U av) (cs.map (TV.los U)) = some (q.lo U) ∧ k q = some r := by
  intro n ih av cs k h
  unfold ca_bbr_ctl_shortest at h
  split at h
  · simp only [Option.bind_eq_some_iff] at h
    obtain ⟨u0, h0, c1_, h1, p1, g1, q0, i0, h⟩ := h
    obtain rfl := dP_ok h0
    obtain rfl := dA_ok h1
    obtain rfl := dSample_ok g1
    obtain rfl := dctl_ok i0
    cases n with
    | zero => cases h
    | succ n =>
      exact run2_ok UOk (ih n rfl) (f := fn_bbr_ctl_shortest) rfl ((run_bbr_ctl_shortest capB n p1 q0 k).symm.trans h)
  · cases h
theorem ok_bbr_ctl_full {R : Type} {r : R} : ∀ {n : Nat}, (∀ m, n = m + 1 → CallOk2 (R := R) U (callP capB m) (runF tbl m)) → ∀ {av : Fr} {cs : List Fr} {k : Ret2 RW → Option R}, ca_bbr_ctl_full capB n av cs k = some r → ∃ q : Ret2 RW, runF tbl n 1017 (TV.los U av) (cs.map (TV.los U)) = some (q.lo U) ∧ k q = some r := by
  intro n ih av cs k h
  unfold ca_bbr_ctl_full at h
  split at h
  · simp only [Option.bind_eq_some_iff] at h
    obtain ⟨u0, h0, q0, i0, h⟩ := h
    obtain rfl := dP_ok h0
    obtain rfl := dctl_ok i0
    cases n with
    | zero => cases h
    | succ n =>
      exact run2_ok UOk (ih n rfl) (f := fn_bbr_ctl_full) rfl ((run_bbr_ctl_full capB n q0 k).symm.trans h)
  · cases h
theorem ok_math_bits_Mul64 {R : Type} {r : R} : ∀ {n : Nat}, (∀ m, n = m + 1 → CallOk2 (R := R) U (callP capB m) (runF tbl m)) → ∀ {av : Fr} {cs : List Fr} {k : Ret2 RW → Option R}, ca_math_bits_Mul64 capB n av cs k = some r → ∃ q : Ret2 RW, runF tbl n 46 (TV.los U av) (cs.map (TV.los U)) = some (q.lo U) ∧ k q = some r := by
  intro n ih av cs k h
  unfold ca_math_bits_Mul64 at h
  split at h
  · simp only [Option.bind_eq_some_iff] at h
    obtain ⟨p0, h0, p1, h1, h⟩ := h
    obtain rfl := dI_ok h0
    obtain rfl := dI_ok h1
    cases n with
    | zero => cases h
    | succ n =>
      exact run2_ok UOk (ih n rfl) (f := fn_math_bits_Mul64) rfl ((run_math_bits_Mul64 capB n p0 p1 k).symm.trans h)
  · cases h
theorem ok_math_bits_Len64 {R : Type} {r : R} : ∀ {n : Nat}, (∀ m, n = m + 1 → CallOk2 (R := R) U (callP capB m) (runF tbl m)) → ∀ {av : Fr} {cs : List Fr} {k : Ret2 RW → Option R}, ca_math_bits_Len64 capB n av cs k = some r → ∃ q : Ret2 RW, runF tbl n 49 (TV.los U av) (cs.map (TV.los U)) = some (q.lo U) ∧ k q = some r := by
  intro n ih av cs k h
  unfold ca_math_bits_Len64 at h
  split at h
  · simp only [Option.bind_eq_some_iff] at h
    obtain ⟨p0, h0, h⟩ := h
    obtain rfl := dI_ok h0
    cases n with
    | zero => cases h
    | succ n =>
      exact run2_ok UOk (ih n rfl) (f := fn_math_bits_Len64) rfl ((run_math_bits_Len64 capB n p0 k).symm.trans h)
  · cases h
theorem ok_math_bits_LeadingZeros64 {R : Type} {r : R} : ∀ {n : Nat}, (∀ m, n = m + 1 → CallOk2 (R := R) U (callP capB m) (runF tbl m)) → ∀ {av : Fr} {cs : List Fr} {k : Ret2 RW → Option R}, ca_math_bits_LeadingZeros64 capB n av cs k = some r → ∃ q : Ret2 RW, runF tbl n 48 (TV.los U av) (cs.map (TV.los U)) = some (q.lo U) ∧ k q = some r := by
  intro n ih av cs k h
  unfold ca_math_bits_LeadingZeros64 at h
  split at h
  · simp only [Option.bind_eq_some_iff] at h
    obtain ⟨p0, h0, h⟩ := h
    obtain rfl := dI_ok h0
    cases n with
    | zero => cases h
    | succ n =>
      exact run2_ok UOk (ih n rfl) (f := fn_math_bits_LeadingZeros64) rfl ((run_math_bits_LeadingZeros64 capB n p0 k).symm.trans h)
  · cases h
theorem ok_math_bits_Div64 {R : Type} {r : R} : ∀ {n : Nat}, (∀ m, n = m + 1 → CallOk2 (R := R) U (callP capB m) (runF tbl m)) → ∀ {av : Fr} {cs : List Fr} {k : Ret2 RW → Option R}, ca_math_bits_Div64 capB n av cs k = some r → ∃ q : Ret2 RW, runF tbl n 47 (TV.los U av) (cs.map (TV.los U)) = some (q.lo U) ∧ k q = some r := by
  intro n ih av cs k h
  unfold ca_math_bits_Div64 at h
  split at h
  · simp only [Option.bind_eq_some_iff] at h
    obtain ⟨p0, h0, p1, h1, p2, h2, h⟩ := h
    obtain rfl := dI_ok h0
    obtain rfl := dI_ok h1
    obtain rfl := dI_ok h2
    cases n with
    | zero => cases h
    | succ n =>
      exact run2_ok UOk (ih n rfl) (f := fn_math_bits_Div64) rfl ((run_math_bits_Div64 capB n p0 p1 p2 k).symm.trans h)
  · cases h
theorem ok_seq_MulDiv {R : Type} {r : R} : ∀ {n : Nat}, (∀ m, n = m + 1 → CallOk2 (R := R) U (callP capB m) (runF tbl m)) → ∀ {av : Fr} {cs : List Fr} {k : Ret2 RW → Option R}, ca_seq_MulDiv capB n av cs k = some r → ∃ q : Ret2 RW, runF tbl n 41 (TV.los U av) (cs.map (TV.los U)) = some (q.lo U) ∧ k q = some r := by
  intro n ih av cs k h
  unfold ca_seq_MulDiv at h
  split at h
  · simp only [Option.bind_eq_some_iff] at h
    obtain ⟨p0, h0, p1, h1, p2, h2, h⟩ := h
    obtain rfl := dI_ok h0
    obtain rfl := dI_ok h1
    obtain rfl := dI_ok h2
    cases n with
    | zero => cases h
    | succ n =>
      exact run2_ok UOk (ih n rfl) (f := fn_seq_MulDiv) rfl ((run_seq_MulDiv capB n p0 p1 p2 k).symm.trans h)
  · cases h
theorem ok_bbr_ctl_product {R : Type} {r : R} : ∀ {n : Nat}, (∀ m, n = m + 1 → CallOk2 (R := R) U (callP capB m) (runF tbl m)) → ∀ {av : Fr} {cs : List Fr} {k : Ret2 RW → Option R}, ca_bbr_ctl_product capB n av cs k = some r → ∃ q : Ret2 RW, runF tbl n 1019 (TV.los U av) (cs.map (TV.los U)) = some (q.lo U) ∧ k q = some r := by
  intro n ih av cs k h
  unfold ca_bbr_ctl_product at h
  split at h
  · simp only [Option.bind_eq_some_iff] at h
    obtain ⟨u0, h0, q0, i0, h⟩ := h
    obtain rfl := dP_ok h0
    obtain rfl := dctl_ok i0
    cases n with
    | zero => cases h
    | succ n =>
      exact run2_ok UOk (ih n rfl) (f := fn_bbr_ctl_product) rfl ((run_bbr_ctl_product capB n q0 k).symm.trans h)
  · cases h
theorem ok_bbr_ctl_probe {R : Type} {r : R} : ∀ {n : Nat}, (∀ m, n = m + 1 → CallOk2 (R := R) U (callP capB m) (runF tbl m)) → ∀ {av : Fr} {cs : List Fr} {k : Ret2 RW → Option R}, ca_bbr_ctl_probe capB n av cs k = some r → ∃ q : Ret2 RW, runF tbl n 1025 (TV.los U av) (cs.map (TV.los U)) = some (q.lo U) ∧ k q = some r := by
  intro n ih av cs k h
  unfold ca_bbr_ctl_probe at h
  split at h
  · simp only [Option.bind_eq_some_iff] at h
    obtain ⟨u0, h0, p1, h1, q0, i0, h⟩ := h
    obtain rfl := dP_ok h0
    obtain rfl := dI_ok h1
    obtain rfl := dctl_ok i0
    cases n with
    | zero => cases h
    | succ n =>
      exact run2_ok UOk (ih n rfl) (f := fn_bbr_ctl_probe) rfl ((run_bbr_ctl_probe capB n p1 q0 k).symm.trans h)
  · cases h
theorem ok_bbr_ctl_cycle {R : Type} {r : R} : ∀ {n : Nat}, (∀ m, n = m + 1 → CallOk2 (R := R) U (callP capB m) (runF tbl m)) → ∀ {av : Fr} {cs : List Fr} {k : Ret2 RW → Option R}, ca_bbr_ctl_cycle capB n av cs k = some r → ∃ q : Ret2 RW, runF tbl n 1018 (TV.los U av) (cs.map (TV.los U)) = some (q.lo U) ∧ k q = some r := by
  intro n ih av cs k h
  unfold ca_bbr_ctl_cycle at h
  split at h
  · simp only [Option.bind_eq_some_iff] at h
    obtain ⟨u0, h0, c1_, h1, p1, g1, q0, i0, h⟩ := h
    obtain rfl := dP_ok h0
    obtain rfl := dA_ok h1
    obtain rfl := dSample_ok g1
    obtain rfl := dctl_ok i0
    cases n with
    | zero => cases h
    | succ n =>
      exact run2_ok UOk (ih n rfl) (f := fn_bbr_ctl_cycle) rfl ((run_bbr_ctl_cycle capB n p1 q0 k).symm.trans h)
  · cases h
theorem ok_bbr_ctl_ask {R : Type} {r : R} : ∀ {n : Nat}, (∀ m, n = m + 1 → CallOk2 (R := R) U (callP capB m) (runF tbl m)) → ∀ {av : Fr} {cs : List Fr} {k : Ret2 RW → Option R}, ca_bbr_ctl_ask capB n av cs k = some r → ∃ q : Ret2 RW, runF tbl n 1026 (TV.los U av) (cs.map (TV.los U)) = some (q.lo U) ∧ k q = some r := by
  intro n ih av cs k h
  unfold ca_bbr_ctl_ask at h
  split at h
  · simp only [Option.bind_eq_some_iff] at h
    obtain ⟨u0, h0, c1_, h1, p1, g1, p2, h2, q0, i0, h⟩ := h
    obtain rfl := dP_ok h0
    obtain rfl := dA_ok h1
    obtain rfl := dSample_ok g1
    obtain rfl := dB_ok h2
    obtain rfl := dctl_ok i0
    cases n with
    | zero => cases h
    | succ n =>
      exact run2_ok UOk (ih n rfl) (f := fn_bbr_ctl_ask) rfl ((run_bbr_ctl_ask capB n p1 p2 q0 k).symm.trans h)
  · cases h
theorem ok_seq_Clamp {R : Type} {r : R} : ∀ {n : Nat}, (∀ m, n = m + 1 → CallOk2 (R := R) U (callP capB m) (runF tbl m)) → ∀ {av : Fr} {cs : List Fr} {k : Ret2 RW → Option R}, ca_seq_Clamp capB n av cs k = some r → ∃ q : Ret2 RW, runF tbl n 39 (TV.los U av) (cs.map (TV.los U)) = some (q.lo U) ∧ k q = some r := by
  intro n ih av cs k h
  unfold ca_seq_Clamp at h
  split at h
  · simp only [Option.bind_eq_some_iff] at h
    obtain ⟨p0, h0, p1, h1, p2, h2, h⟩ := h
    obtain rfl := dI_ok h0
    obtain rfl := dI_ok h1
    obtain rfl := dI_ok h2
    cases n with
    | zero => cases h
    | succ n =>
      exact run2_ok UOk (ih n rfl) (f := fn_seq_Clamp) rfl ((run_seq_Clamp capB n p0 p1 p2 k).symm.trans h)
  · cases h
theorem ok_bbr_ctl_window {R : Type} {r : R} : ∀ {n : Nat}, (∀ m, n = m + 1 → CallOk2 (R := R) U (callP capB m) (runF tbl m)) → ∀ {av : Fr} {cs : List Fr} {k : Ret2 RW → Option R}, ca_bbr_ctl_window capB n av cs k = some r → ∃ q : Ret2 RW, runF tbl n 1027 (TV.los U av) (cs.map (TV.los U)) = some (q.lo U) ∧ k q = some r := by
  intro n ih av cs k h
  unfold ca_bbr_ctl_window at h
  split at h
  · simp only [Option.bind_eq_some_iff] at h
    obtain ⟨u0, h0, c1_, h1, p1, g1, q0, i0, h⟩ := h
    obtain rfl := dP_ok h0
    obtain rfl := dA_ok h1
    obtain rfl := dSample_ok g1
    obtain rfl := dctl_ok i0
    cases n with
    | zero => cases h
    | succ n =>
      exact run2_ok UOk (ih n rfl) (f := fn_bbr_ctl_window) rfl ((run_bbr_ctl_window capB n p1 q0 k).symm.trans h)
  · cases h
theorem ok_bbr_Acked {R : Type} {r : R} : ∀ {n : Nat}, (∀ m, n = m + 1 → CallOk2 (R := R) U (callP capB m) (runF tbl m)) → ∀ {av : Fr} {cs : List Fr} {k : Ret2 RW → Option R}, ca_bbr_Acked capB n av cs k = some r → ∃ q : Ret2 RW, runF tbl n 14 (TV.los U av) (cs.map (TV.los U)) = some (q.lo U) ∧ k q = some r := by
  intro n ih av cs k h
  unfold ca_bbr_Acked at h
  split at h
  · simp only [Option.bind_eq_some_iff] at h
    obtain ⟨c0_, h0, p0, g0, c1_, h1, p1, g1, h⟩ := h
    obtain rfl := dA_ok h0
    obtain rfl := dCc_ok g0
    obtain rfl := dA_ok h1
    obtain rfl := dSample_ok g1
    cases n with
    | zero => cases h
    | succ n =>
      exact run2_ok UOk (ih n rfl) (f := fn_bbr_Acked) rfl ((run_bbr_Acked capB n p0 p1 k).symm.trans h)
  · cases h
theorem ok_bbr_Timeout {R : Type} {r : R} : ∀ {n : Nat}, (∀ m, n = m + 1 → CallOk2 (R := R) U (callP capB m) (runF tbl m)) → ∀ {av : Fr} {cs : List Fr} {k : Ret2 RW → Option R}, ca_bbr_Timeout capB n av cs k = some r → ∃ q : Ret2 RW, runF tbl n 7 (TV.los U av) (cs.map (TV.los U)) = some (q.lo U) ∧ k q = some r := by
  intro n ih av cs k h
  unfold ca_bbr_Timeout at h
  split at h
  · simp only [Option.bind_eq_some_iff] at h
    obtain ⟨c0_, h0, p0, g0, p1, h1, h⟩ := h
    obtain rfl := dA_ok h0
    obtain rfl := dCc_ok g0
    obtain rfl := dI_ok h1
    cases n with
    | zero => cases h
    | succ n =>
      exact run2_ok UOk (ih n rfl) (f := fn_bbr_Timeout) rfl ((run_bbr_Timeout capB n p0 p1 k).symm.trans h)
  · cases h
theorem ok_bbr_Bandwidth {R : Type} {r : R} : ∀ {n : Nat}, (∀ m, n = m + 1 → CallOk2 (R := R) U (callP capB m) (runF tbl m)) → ∀ {av : Fr} {cs : List Fr} {k : Ret2 RW → Option R}, ca_bbr_Bandwidth capB n av cs k = some r → ∃ q : Ret2 RW, runF tbl n 15 (TV.los U av) (cs.map (TV.los U)) = some (q.lo U) ∧ k q = some r := by
  intro n ih av cs k h
  unfold ca_bbr_Bandwidth at h
  split at h
  · simp only [Option.bind_eq_some_iff] at h
    obtain ⟨c0_, h0, p0, g0, h⟩ := h
    obtain rfl := dA_ok h0
    obtain rfl := dCc_ok g0
    cases n with
    | zero => cases h
    | succ n =>
      exact run2_ok UOk (ih n rfl) (f := fn_bbr_Bandwidth) rfl ((run_bbr_Bandwidth capB n p0 k).symm.trans h)
  · cases h
theorem ok_bbr_Product {R : Type} {r : R} : ∀ {n : Nat}, (∀ m, n = m + 1 → CallOk2 (R := R) U (callP capB m) (runF tbl m)) → ∀ {av : Fr} {cs : List Fr} {k : Ret2 RW → Option R}, ca_bbr_Product capB n av cs k = some r → ∃ q : Ret2 RW, runF tbl n 16 (TV.los U av) (cs.map (TV.los U)) = some (q.lo U) ∧ k q = some r := by
  intro n ih av cs k h
  unfold ca_bbr_Product at h
  split at h
  · simp only [Option.bind_eq_some_iff] at h
    obtain ⟨c0_, h0, p0, g0, h⟩ := h
    obtain rfl := dA_ok h0
    obtain rfl := dCc_ok g0
    cases n with
    | zero => cases h
    | succ n =>
      exact run2_ok UOk (ih n rfl) (f := fn_bbr_Product) rfl ((run_bbr_Product capB n p0 k).symm.trans h)
  · cases h
theorem ok_bbr_Gain {R : Type} {r : R} : ∀ {n : Nat}, (∀ m, n = m + 1 → CallOk2 (R := R) U (callP capB m) (runF tbl m)) → ∀ {av : Fr} {cs : List Fr} {k : Ret2 RW → Option R}, ca_bbr_Gain capB n av cs k = some r → ∃ q : Ret2 RW, runF tbl n 23 (TV.los U av) (cs.map (TV.los U)) = some (q.lo U) ∧ k q = some r := by
  intro n ih av cs k h
  unfold ca_bbr_Gain at h
  split at h
  · simp only [Option.bind_eq_some_iff] at h
    obtain ⟨c0_, h0, p0, g0, h⟩ := h
    obtain rfl := dA_ok h0
    obtain rfl := dCc_ok g0
    cases n with
    | zero => cases h
    | succ n =>
      exact run2_ok UOk (ih n rfl) (f := fn_bbr_Gain) rfl ((run_bbr_Gain capB n p0 k).symm.trans h)
  · cases h
theorem ok_law18_heads {R : Type} {r : R} : ∀ {n : Nat}, (∀ m, n = m + 1 → CallOk2 (R := R) U (callP capB m) (runF tbl m)) → ∀ {av : Fr} {cs : List Fr} {k : Ret2 RW → Option R}, ca_law18_heads capB n av cs k = some r → ∃ q : Ret2 RW, runF tbl n 13 (TV.los U av) (cs.map (TV.los U)) = some (q.lo U) ∧ k q = some r := by
  intro n ih av cs k h
  unfold ca_law18_heads at h
  split at h
  · cases n with
    | zero => cases h
    | succ n =>
      exact run2_ok UOk (ih n rfl) (f := fn_law18_heads) rfl ((run_law18_heads capB n  k).symm.trans h)
  · cases h
theorem ok_law18_BbrSteady {R : Type} {r : R} : ∀ {n : Nat}, (∀ m, n = m + 1 → CallOk2 (R := R) U (callP capB m) (runF tbl m)) → ∀ {av : Fr} {cs : List Fr} {k : Ret2 RW → Option R}, ca_law18_BbrSteady capB n av cs k = some r → ∃ q : Ret2 RW, runF tbl n 5 (TV.los U av) (cs.map (TV.los U)) = some (q.lo U) ∧ k q = some r := by
  intro n ih av cs k h
  unfold ca_law18_BbrSteady at h
  split at h
  · simp only [Option.bind_eq_some_iff] at h
    obtain ⟨p0, h0, p1, h1, p2, h2, h⟩ := h
    obtain rfl := dI_ok h0
    obtain rfl := dI_ok h1
    obtain rfl := dI_ok h2
    cases n with
    | zero => cases h
    | succ n =>
      exact run2_ok UOk (ih n rfl) (f := fn_law18_BbrSteady) rfl ((run_law18_BbrSteady capB n p0 p1 p2 k).symm.trans h)
  · cases h
theorem callOk {R : Type} : ∀ n, CallOk2 (R := R) U (callP capB n) (runF tbl n)
  | n => fun id av cells k r h => by
    have ih : ∀ m, n = m + 1 → CallOk2 (R := R) U (callP capB m) (runF tbl m) := fun m e => callOk m
    unfold callP at h
    split at h
    · exact ok_reno_New ih h
    · exact ok_bbr_New ih h
    · exact ok_bbr_within ih h
    · exact ok_filter_may ih h
    · exact ok_filter_beats ih h
    · exact ok_filter_Check ih h
    · exact ok_bbr_ctl_entries ih h
    · exact ok_bbr_Check ih h
    · exact ok_bbr_ctl_round ih h
    · exact ok_filter_Best ih h
    · exact ok_bbr_ctl_bandwidth ih h
    · exact ok_filter_Put ih h
    · exact ok_bbr_ctl_speed ih h
    · exact ok_bbr_ctl_shortest ih h
    · exact ok_bbr_ctl_full ih h
    · exact ok_math_bits_Mul64 ih h
    · exact ok_math_bits_Len64 ih h
    · exact ok_math_bits_LeadingZeros64 ih h
    · exact ok_math_bits_Div64 ih h
    · exact ok_seq_MulDiv ih h
    · exact ok_bbr_ctl_product ih h
    · exact ok_bbr_ctl_probe ih h
    · exact ok_bbr_ctl_cycle ih h
    · exact ok_bbr_ctl_ask ih h
    · exact ok_seq_Clamp ih h
    · exact ok_bbr_ctl_window ih h
    · exact ok_bbr_Acked ih h
    · exact ok_bbr_Timeout ih h
    · exact ok_bbr_Bandwidth ih h
    · exact ok_bbr_Product ih h
    · exact ok_bbr_Gain ih h
    · exact ok_law18_heads ih h
    · exact ok_law18_BbrSteady ih h
    · cases h
termination_by n => n
decreasing_by omega
end
end Go.Proofs.Ytgadpgeghlhpnaa.M
