/- The machine's code of the functions, and that it computes them. -/
import Derived.Test.YtgadpgeghlhpnaaFG0
import Derived.Test.YtgadpgeghlhpnaaProg
import Derived.KernelRfl
set_option maxRecDepth 100000
set_option linter.unusedVariables false
set_option linter.unusedSimpArgs false
namespace Go.Proofs.Ytgadpgeghlhpnaa.M
open Go
noncomputable section
def X {R : Type} (cp : Nat → Nat → Bool) (n : Nat) (c : IC2 RW) (l : FF) (k : Ex → FF → Option R) : Option R := exec2 U cp (callP cp n) n c l k
theorem X_run {R : Type} {cp : Nat → Nat → Bool} {n : Nat} {f : IFn2 RW} {av : Fr} {cells : List Fr} {code : IC2 RW} {fr : FF} {k : Ret2 RW → Option R} (hb : f.body = code) (h : ∀ K : FF → Option R, start2 f av cells K = K fr) : run2 U cp (callP cp n) n f av cells k = X cp n code fr (finK2 f k) := by
  subst hb
  exact h _
def o0 (op : IOp2 RW) : IStep2 RW := ⟨none, op, none, false⟩
def o1 (d : Nat) (op : IOp2 RW) : IStep2 RW := ⟨some d, op, none, false⟩
def o2 (d : Nat) (op : IOp2 RW) : IStep2 RW := ⟨some d, op, none, true⟩
def o3 (d g : Nat) (b : Bool) (op : IOp2 RW) : IStep2 RW := ⟨some d, op, some (g, b), false⟩
def g_bbr_within_2 : List (IStep2 RW) := [o1 10 (.bin .lss (.s 9) (.s 8))]
def g_bbr_within_3 : List (IStep2 RW) := [o1 11 (.idx 1 (.s 7) (.s 9)),
  o1 12 (.loade 1 false 11),
  o1 6 (.mv false (.s 12))]
def g_bbr_within_4 : List (IStep2 RW) := [o1 13 (.mv false (.s 6)),
  o1 14 (.bin .lss (.s 13) (.k (.sc (.int .i64 0)))),
  o2 15 (.mv false (.s 14)),
  o3 16 15 false (.mv false (.s 6)),
  o3 17 15 false (.mv false (.s 0)),
  o3 18 15 false (.bin .gtr (.s 16) (.s 17)),
  o1 19 (.pick (.s 15) (.k (.sc (.bool true))) (.s 18))]
def g_bbr_within_5 : List (IStep2 RW) := [o1 4 (.mv false (.k (.sc (.bool false))))]
def g_bbr_within_6 : List (IStep2 RW) := [o1 20 (.bin .add (.s 9) (.k (.sc (.int .i64 1)))),
  o1 9 (.mv false (.s 20))]
def i_bbr_within_0 : IC2 RW := .seq (.reg g_bbr_within_2) (.seq (.fin (.cond (.s 10) (.skip) (.clr [0, 7, 8, 9, 10] [] (.exit 0))) [10] []) (.seq (.blk 1 (.seq (.fin (.reg g_bbr_within_3) [11, 12] []) (.seq (.fin (.reg g_bbr_within_4) [6, 13, 14, 15, 16, 17, 18] []) (.fin (.cond (.s 19) (.seq (.fin (.reg g_bbr_within_5) [0, 7, 8, 9, 19] []) (.ret)) (.skip)) [19] [])))) (.fin (.reg g_bbr_within_6) [20] [])))
def i_bbr_within_1 : IC2 RW := .loop i_bbr_within_0
def i_bbr_within_2 : IC2 RW := .blk 0 i_bbr_within_1
def g_bbr_within_1 : List (IStep2 RW) := [o1 7 (.mv false (.s 1)),
  o1 8 (.len false (.s 7)),
  o1 9 (.mv false (.k (.sc (.int .i64 0))))]
def i_bbr_within_3 : IC2 RW := .seq (.fin (.reg g_bbr_within_1) [1] []) i_bbr_within_2
def g_bbr_within_7 : List (IStep2 RW) := [o1 4 (.mv false (.k (.sc (.bool true))))]
def i_bbr_within_4 : IC2 RW := .seq (.reg g_bbr_within_7) (.ret)
def i_bbr_within_5 : IC2 RW := .seq i_bbr_within_3 i_bbr_within_4
def g_bbr_within_0 : List (IStep2 RW) := [o1 4 (.mv false (.k (.sc (.bool false))))]
def i_bbr_within_6 : IC2 RW := .seq (.fin (.reg g_bbr_within_0) [4] []) i_bbr_within_5
def fn_bbr_within : IFn2 RW := ⟨17, 2, 21, 32, [], [], [.slot 4], i_bbr_within_6⟩
def g_filter_may_0 : List (IStep2 RW) := [o1 1 (.box 21 2 false (.s 0)),
  o1 2 (.mv false (.k (.sc (.bool false))))]
def g_filter_may_1 : List (IStep2 RW) := [o1 3 (.fld 0 (.s 1)),
  o1 4 (.load 21 0 1 false false 3),
  o1 5 (.bin .geq (.s 4) (.k (.sc (.int .i64 0)))),
  o2 6 (.mv false (.s 5)),
  o3 7 6 true (.fld 0 (.s 1)),
  o3 8 6 true (.load 21 0 1 false false 7),
  o3 9 6 true (.bin .leq (.s 8) (.k (.sc (.int .i64 1125899906842624)))),
  o1 10 (.pick (.s 6) (.s 9) (.k (.sc (.bool false)))),
  o2 11 (.mv false (.s 10)),
  o3 12 11 true (.fld 1 (.s 1)),
  o3 13 11 true (.load 21 1 1 false false 12),
  o3 14 11 true (.bin .geq (.s 13) (.k (.sc (.int .i64 0)))),
  o1 15 (.pick (.s 11) (.s 14) (.k (.sc (.bool false)))),
  o2 16 (.mv false (.s 15)),
  o3 17 16 true (.fld 1 (.s 1)),
  o3 18 16 true (.load 21 1 1 false false 17),
  o3 19 16 true (.bin .leq (.s 18) (.k (.sc (.int .i64 1152921504606846976)))),
  o1 20 (.pick (.s 16) (.s 19) (.k (.sc (.bool false)))),
  o1 2 (.mv false (.s 20))]
def i_filter_may_0 : IC2 RW := .seq (.fin (.reg g_filter_may_0) [0, 2] []) (.seq (.fin (.reg g_filter_may_1) [1, 3, 4, 5, 6, 7, 8, 9, 10, 11, 12, 13, 14, 15, 16, 17, 18, 19, 20] [(21, 2)]) (.ret))
def fn_filter_may : IFn2 RW := ⟨44, 1, 21, 32, [(21, 2)], [], [.slot 2], i_filter_may_0⟩
def g_filter_beats_0 : List (IStep2 RW) := [o1 6 (.mv false (.k (.sc (.bool false))))]
def g_filter_beats_1 : List (IStep2 RW) := [o1 7 (.mv false (.s 2)),
  o2 8 (.mv false (.s 7)),
  o3 9 8 true (.mv false (.s 0)),
  o3 10 8 true (.mv false (.s 1)),
  o3 11 8 true (.bin .geq (.s 9) (.s 10)),
  o1 12 (.pick (.s 8) (.s 11) (.k (.sc (.bool false)))),
  o2 13 (.mv false (.s 12)),
  o3 14 13 false (.mv false (.s 2)),
  o3 15 13 false (.un .not (.s 14)),
  ⟨some 16, .mv false (.s 15), (some (13, false)), true⟩,
  o3 17 16 true (.mv false (.s 0)),
  o3 18 16 true (.mv false (.s 1)),
  o3 19 16 true (.bin .leq (.s 17) (.s 18)),
  o3 20 13 false (.pick (.s 16) (.s 19) (.k (.sc (.bool false)))),
  o1 21 (.pick (.s 13) (.k (.sc (.bool true))) (.s 20)),
  o1 6 (.mv false (.s 21))]
def i_filter_beats_0 : IC2 RW := .seq (.fin (.reg g_filter_beats_0) [6] []) (.seq (.fin (.reg g_filter_beats_1) [0, 1, 2, 7, 8, 9, 10, 11, 12, 13, 14, 15, 16, 17, 18, 19, 20, 21] []) (.ret))
def fn_filter_beats : IFn2 RW := ⟨45, 3, 22, 32, [], [], [.slot 6], i_filter_beats_0⟩
def g_filter_Check_2 : List (IStep2 RW) := [o1 10 (.bin .lss (.s 9) (.s 8))]
def g_filter_Check_3 : List (IStep2 RW) := [o1 11 (.mv false (.s 9)),
  o1 12 (.idx 2 (.s 7) (.s 9)),
  o1 13 (.loade 2 true 12),
  o1 6 (.alloc 45 [.sc (.int .i64 0), .sc (.int .i64 0)]),
  o1 5 (.mv false (.s 11)),
  o0 (.store 45 0 2 false 6 (.s 13))]
def g_filter_Check_4 : List (IStep2 RW) := [o1 14 (.load 45 0 2 true false 6),
  o1 15 (.call 44 [(false, .s 14)] []),
  o1 16 (.un .not (.s 15)),
  o2 17 (.mv false (.s 16)),
  o3 18 17 false (.mv false (.s 5)),
  o3 19 17 false (.bin .gtr (.s 18) (.k (.sc (.int .i64 0)))),
  ⟨some 20, .mv false (.s 19), (some (17, false)), true⟩,
  o3 21 20 true (.mv false (.s 0)),
  o3 22 20 true (.mv false (.s 5)),
  o3 23 20 true (.bin .sub (.s 22) (.k (.sc (.int .i64 1)))),
  o3 24 20 true (.idx 2 (.s 21) (.s 23)),
  o3 25 20 true (.fld 0 (.s 24)),
  o3 26 20 true (.loade 1 false 25),
  o3 27 20 true (.fld 0 (.s 6)),
  o3 28 20 true (.load 45 0 1 false false 27),
  o3 29 20 true (.bin .geq (.s 26) (.s 28)),
  ⟨some 30, .mv false (.s 29), (some (20, true)), true⟩,
  o3 31 30 false (.fld 1 (.s 6)),
  o3 32 30 false (.load 45 1 1 false false 31),
  o3 33 30 false (.mv false (.s 0)),
  o3 34 30 false (.mv false (.s 5)),
  o3 35 30 false (.bin .sub (.s 34) (.k (.sc (.int .i64 1)))),
  o3 36 30 false (.idx 2 (.s 33) (.s 35)),
  o3 37 30 false (.fld 1 (.s 36)),
  o3 38 30 false (.loade 1 false 37),
  o3 39 30 false (.mv false (.s 1)),
  o3 40 30 false (.call 45 [(false, .s 32), (false, .s 38), (false, .s 39)] []),
  o3 41 20 true (.pick (.s 30) (.k (.sc (.bool true))) (.s 40)),
  o3 42 17 false (.pick (.s 20) (.s 41) (.k (.sc (.bool false)))),
  o1 43 (.pick (.s 17) (.k (.sc (.bool true))) (.s 42))]
def g_filter_Check_5 : List (IStep2 RW) := [o1 4 (.mv false (.k (.sc (.int .i64 2))))]
def g_filter_Check_6 : List (IStep2 RW) := [o1 44 (.bin .add (.s 9) (.k (.sc (.int .i64 1)))),
  o1 9 (.mv false (.s 44))]
def i_filter_Check_0 : IC2 RW := .seq (.reg g_filter_Check_2) (.seq (.fin (.cond (.s 10) (.skip) (.clr [0, 1, 7, 8, 9, 10] [] (.exit 0))) [10] []) (.seq (.blk 1 (.seq (.fin (.reg g_filter_Check_3) [11, 12, 13] []) (.seq (.fin (.reg g_filter_Check_4) [5, 6, 14, 15, 16, 17, 18, 19, 20, 21, 22, 23, 24, 25, 26, 27, 28, 29, 30, 31, 32, 33, 34, 35, 36, 37, 38, 39, 40, 41, 42] [(45, 2)]) (.fin (.cond (.s 43) (.seq (.fin (.reg g_filter_Check_5) [0, 1, 7, 8, 9, 43] []) (.ret)) (.skip)) [43] [])))) (.fin (.reg g_filter_Check_6) [44] [])))
def i_filter_Check_1 : IC2 RW := .loop i_filter_Check_0
def i_filter_Check_2 : IC2 RW := .blk 0 i_filter_Check_1
def g_filter_Check_1 : List (IStep2 RW) := [o1 7 (.mv false (.s 0)),
  o1 8 (.len false (.s 7)),
  o1 9 (.mv false (.k (.sc (.int .i64 0))))]
def i_filter_Check_3 : IC2 RW := .seq (.reg g_filter_Check_1) i_filter_Check_2
def g_filter_Check_7 : List (IStep2 RW) := [o1 4 (.mv false (.k (.sc (.int .i64 0))))]
def i_filter_Check_4 : IC2 RW := .seq (.reg g_filter_Check_7) (.ret)
def i_filter_Check_5 : IC2 RW := .seq i_filter_Check_3 i_filter_Check_4
def g_filter_Check_0 : List (IStep2 RW) := [o1 4 (.mv false (.k (.sc (.int .i64 0))))]
def i_filter_Check_6 : IC2 RW := .seq (.fin (.reg g_filter_Check_0) [4] []) i_filter_Check_5
def fn_filter_Check : IFn2 RW := ⟨36, 2, 45, 48, [(45, 2)], [], [.slot 4], i_filter_Check_6⟩
def g_bbr_ctl_entries_4 : List (IStep2 RW) := [o1 19 (.bin .lss (.s 18) (.s 17))]
def g_bbr_ctl_entries_5 : List (IStep2 RW) := [o1 20 (.idx 2 (.s 16) (.s 18)),
  o1 21 (.loade 2 true 20),
  o1 4 (.alloc 59 [.sc (.int .i64 0), .sc (.int .i64 0)]),
  o0 (.store 59 0 2 false 4 (.s 21))]
def g_bbr_ctl_entries_6 : List (IStep2 RW) := [o1 22 (.fld 1 (.s 4)),
  o1 23 (.load 59 1 1 false false 22),
  o1 24 (.bin .gtr (.s 23) (.k (.sc (.int .i64 1099511627776)))),
  o2 25 (.mv false (.s 24)),
  o3 26 25 false (.fld 0 (.s 4)),
  o3 27 25 false (.load 59 0 1 false false 26),
  o3 28 25 false (.mv false (.s 0)),
  o3 29 25 false (.nil (.s 28)),
  o3 30 25 false (.fld 0 (.s 29)),
  o3 31 25 false (.fld 14 (.s 30)),
  o3 32 25 false (.load 36 14 1 false false 31),
  o3 33 25 false (.bin .gtr (.s 27) (.s 32)),
  o1 34 (.pick (.s 25) (.k (.sc (.bool true))) (.s 33))]
def g_bbr_ctl_entries_7 : List (IStep2 RW) := [o1 2 (.mv false (.k (.sc (.bool false))))]
def g_bbr_ctl_entries_8 : List (IStep2 RW) := [o1 35 (.bin .add (.s 18) (.k (.sc (.int .i64 1)))),
  o1 18 (.mv false (.s 35))]
def i_bbr_ctl_entries_0 : IC2 RW := .seq (.reg g_bbr_ctl_entries_4) (.seq (.fin (.cond (.s 19) (.skip) (.clr [0, 16, 17, 18, 19] [] (.exit 0))) [19] []) (.seq (.blk 1 (.seq (.fin (.reg g_bbr_ctl_entries_5) [20, 21] []) (.seq (.fin (.reg g_bbr_ctl_entries_6) [4, 22, 23, 24, 25, 26, 27, 28, 29, 30, 31, 32, 33] [(59, 2)]) (.fin (.cond (.s 34) (.seq (.fin (.reg g_bbr_ctl_entries_7) [0, 16, 17, 18, 34] []) (.ret)) (.skip)) [34] [])))) (.fin (.reg g_bbr_ctl_entries_8) [35] [])))
def i_bbr_ctl_entries_1 : IC2 RW := .loop i_bbr_ctl_entries_0
def i_bbr_ctl_entries_2 : IC2 RW := .blk 0 i_bbr_ctl_entries_1
def g_bbr_ctl_entries_3 : List (IStep2 RW) := [o1 12 (.mv false (.s 0)),
  o1 13 (.nil (.s 12)),
  o1 14 (.fld 0 (.s 13)),
  o1 15 (.fld 11 (.s 14)),
  o1 16 (.load 36 11 1 false false 15),
  o1 17 (.len false (.s 16)),
  o1 18 (.mv false (.k (.sc (.int .i64 0))))]
def i_bbr_ctl_entries_3 : IC2 RW := .seq (.fin (.reg g_bbr_ctl_entries_3) [12, 13, 14, 15] []) i_bbr_ctl_entries_2
def g_bbr_ctl_entries_9 : List (IStep2 RW) := [o1 2 (.mv false (.k (.sc (.bool true))))]
def i_bbr_ctl_entries_4 : IC2 RW := .seq (.reg g_bbr_ctl_entries_9) (.ret)
def i_bbr_ctl_entries_5 : IC2 RW := .seq i_bbr_ctl_entries_3 i_bbr_ctl_entries_4
def g_bbr_ctl_entries_0 : List (IStep2 RW) := [o1 2 (.mv false (.k (.sc (.bool false))))]
def g_bbr_ctl_entries_1 : List (IStep2 RW) := [o1 5 (.mv false (.s 0)),
  o1 6 (.nil (.s 5)),
  o1 7 (.fld 0 (.s 6)),
  o1 8 (.fld 11 (.s 7)),
  o1 9 (.load 36 11 1 false false 8),
  o1 10 (.call 36 [(false, .s 9), (false, .k (.sc (.bool true)))] []),
  o1 11 (.bin .neq (.s 10) (.k (.sc (.int .i64 0))))]
def g_bbr_ctl_entries_2 : List (IStep2 RW) := [o1 2 (.mv false (.k (.sc (.bool false))))]
def i_bbr_ctl_entries_6 : IC2 RW := .seq (.fin (.reg g_bbr_ctl_entries_0) [2] []) (.seq (.seq (.fin (.reg g_bbr_ctl_entries_1) [5, 6, 7, 8, 9, 10] []) (.fin (.cond (.s 11) (.seq (.fin (.reg g_bbr_ctl_entries_2) [0, 11] []) (.ret)) (.skip)) [11] [])) i_bbr_ctl_entries_5)
def fn_bbr_ctl_entries : IFn2 RW := ⟨22, 1, 36, 64, [(36, 22), (59, 2)], [(36, 22)], [.slot 2], i_bbr_ctl_entries_6⟩
def g_bbr_Check_6 : List (IStep2 RW) := [o1 174 (.mv false (.s 4)),
  o1 175 (.un .not (.s 174)),
  o2 176 (.mv false (.s 175)),
  o3 177 176 false (.mv false (.s 5)),
  o3 178 176 false (.un .not (.s 177)),
  o1 179 (.pick (.s 176) (.k (.sc (.bool true))) (.s 178)),
  o2 180 (.mv false (.s 179)),
  o3 181 180 false (.mv false (.s 6)),
  o3 182 180 false (.un .not (.s 181)),
  o1 183 (.pick (.s 180) (.k (.sc (.bool true))) (.s 182)),
  o2 184 (.mv false (.s 183)),
  o3 185 184 false (.mv false (.s 7)),
  o3 186 184 false (.un .not (.s 185)),
  o1 187 (.pick (.s 184) (.k (.sc (.bool true))) (.s 186)),
  o2 188 (.mv false (.s 187)),
  o3 189 188 false (.mv false (.s 3)),
  o3 190 188 false (.nil (.s 189)),
  o3 191 188 false (.fld 0 (.s 190)),
  o3 192 188 false (.fld 10 (.s 191)),
  o3 193 188 false (.load 232 10 1 false false 192),
  o3 194 188 false (.bin .lss (.s 193) (.k (.sc (.int .i64 1)))),
  o1 195 (.pick (.s 188) (.k (.sc (.bool true))) (.s 194)),
  o2 196 (.mv false (.s 195)),
  o3 197 196 false (.mv false (.s 3)),
  o3 198 196 false (.nil (.s 197)),
  o3 199 196 false (.fld 0 (.s 198)),
  o3 200 196 false (.fld 10 (.s 199)),
  o3 201 196 false (.load 232 10 1 false false 200),
  o3 202 196 false (.bin .gtr (.s 201) (.k (.sc (.int .i64 4)))),
  o1 203 (.pick (.s 196) (.k (.sc (.bool true))) (.s 202)),
  o2 204 (.mv false (.s 203)),
  o3 205 204 false (.mv false (.s 3)),
  o3 206 204 false (.ro 1004 [(false, .s 205)] [(232, 22, 36)]),
  o3 207 204 false (.un .not (.s 206)),
  o1 208 (.pick (.s 204) (.k (.sc (.bool true))) (.s 207))]
def g_bbr_Check_7 : List (IStep2 RW) := [o1 2 (.mv false (.k (.sc (.int .i64 230))))]
def g_bbr_Check_8 : List (IStep2 RW) := [o1 2 (.mv false (.k (.sc (.int .i64 0))))]
def i_bbr_Check_0 : IC2 RW := .seq (.seq (.fin (.reg g_bbr_Check_6) [3, 4, 5, 6, 7, 174, 175, 176, 177, 178, 179, 180, 181, 182, 183, 184, 185, 186, 187, 188, 189, 190, 191, 192, 193, 194, 195, 196, 197, 198, 199, 200, 201, 202, 203, 204, 205, 206, 207] [(232, 22)]) (.fin (.cond (.s 208) (.seq (.fin (.reg g_bbr_Check_7) [208] []) (.ret)) (.skip)) [208] [])) (.seq (.reg g_bbr_Check_8) (.ret))
def g_bbr_Check_5 : List (IStep2 RW) := [o1 140 (.mv false (.s 3)),
  o1 141 (.nil (.s 140)),
  o1 142 (.fld 0 (.s 141)),
  o1 143 (.fld 16 (.s 142)),
  o1 144 (.load 232 16 1 false false 143),
  o1 145 (.bslice 3 1 [(0, 1, .s 144)]),
  o1 146 (.call 17 [(false, .k (.sc (.int .i64 1099511627776))), (false, .s 145)] []),
  o2 147 (.mv false (.s 146)),
  o3 148 147 true (.mv false (.s 3)),
  o3 149 147 true (.nil (.s 148)),
  o3 150 147 true (.fld 0 (.s 149)),
  o3 151 147 true (.fld 17 (.s 150)),
  o3 152 147 true (.load 232 17 1 false false 151),
  o3 153 147 true (.bslice 3 1 [(0, 1, .s 152)]),
  o3 154 147 true (.call 17 [(false, .k (.sc (.int .i64 3))), (false, .s 153)] []),
  o1 155 (.pick (.s 147) (.s 154) (.k (.sc (.bool false)))),
  o2 156 (.mv false (.s 155)),
  o3 157 156 true (.mv false (.s 3)),
  o3 158 156 true (.nil (.s 157)),
  o3 159 156 true (.fld 0 (.s 158)),
  o3 160 156 true (.fld 18 (.s 159)),
  o3 161 156 true (.load 232 18 1 false false 160),
  o3 162 156 true (.bslice 3 1 [(0, 1, .s 161)]),
  o3 163 156 true (.call 17 [(false, .k (.sc (.int .i64 7))), (false, .s 162)] []),
  o1 164 (.pick (.s 156) (.s 163) (.k (.sc (.bool false)))),
  o2 165 (.mv false (.s 164)),
  o3 166 165 true (.mv false (.s 3)),
  o3 167 165 true (.nil (.s 166)),
  o3 168 165 true (.fld 0 (.s 167)),
  o3 169 165 true (.fld 21 (.s 168)),
  o3 170 165 true (.load 232 21 1 false false 169),
  o3 171 165 true (.bslice 3 1 [(0, 1, .s 170)]),
  o3 172 165 true (.call 17 [(false, .k (.sc (.int .i64 1073741824))), (false, .s 171)] []),
  o1 173 (.pick (.s 165) (.s 172) (.k (.sc (.bool false)))),
  o1 7 (.mv false (.s 173))]
def i_bbr_Check_1 : IC2 RW := .seq (.fin (.reg g_bbr_Check_5) [140, 141, 142, 143, 144, 145, 146, 147, 148, 149, 150, 151, 152, 153, 154, 155, 156, 157, 158, 159, 160, 161, 162, 163, 164, 165, 166, 167, 168, 169, 170, 171, 172, 173] []) i_bbr_Check_0
def g_bbr_Check_4 : List (IStep2 RW) := [o1 108 (.mv false (.s 3)),
  o1 109 (.nil (.s 108)),
  o1 110 (.fld 0 (.s 109)),
  o1 111 (.fld 12 (.s 110)),
  o1 112 (.load 232 12 1 false false 111),
  o1 113 (.mv false (.s 3)),
  o1 114 (.nil (.s 113)),
  o1 115 (.fld 0 (.s 114)),
  o1 116 (.fld 13 (.s 115)),
  o1 117 (.load 232 13 1 false false 116),
  o1 118 (.mv false (.s 3)),
  o1 119 (.nil (.s 118)),
  o1 120 (.fld 0 (.s 119)),
  o1 121 (.fld 15 (.s 120)),
  o1 122 (.load 232 15 1 false false 121),
  o1 123 (.mv false (.s 3)),
  o1 124 (.nil (.s 123)),
  o1 125 (.fld 0 (.s 124)),
  o1 126 (.fld 19 (.s 125)),
  o1 127 (.load 232 19 1 false false 126),
  o1 128 (.mv false (.s 3)),
  o1 129 (.nil (.s 128)),
  o1 130 (.fld 0 (.s 129)),
  o1 131 (.fld 20 (.s 130)),
  o1 132 (.load 232 20 1 false false 131),
  o1 133 (.mv false (.s 3)),
  o1 134 (.nil (.s 133)),
  o1 135 (.fld 0 (.s 134)),
  o1 136 (.fld 14 (.s 135)),
  o1 137 (.load 232 14 1 false false 136),
  o1 138 (.bslice 3 6 [(0, 1, .s 112), (1, 1, .s 117), (2, 1, .s 122), (3, 1, .s 127), (4, 1, .s 132), (5, 1, .s 137)]),
  o1 139 (.call 17 [(false, .k (.sc (.int .i64 1125899906842624))), (false, .s 138)] []),
  o1 6 (.mv false (.s 139))]
def i_bbr_Check_2 : IC2 RW := .seq (.fin (.reg g_bbr_Check_4) [108, 109, 110, 111, 112, 113, 114, 115, 116, 117, 118, 119, 120, 121, 122, 123, 124, 125, 126, 127, 128, 129, 130, 131, 132, 133, 134, 135, 136, 137, 138, 139] []) i_bbr_Check_1
def g_bbr_Check_3 : List (IStep2 RW) := [o1 70 (.mv false (.s 3)),
  o1 71 (.nil (.s 70)),
  o1 72 (.fld 0 (.s 71)),
  o1 73 (.fld 5 (.s 72)),
  o1 74 (.load 232 5 1 false false 73),
  o1 75 (.bin .eql (.s 74) (.k (.sc (.int .i64 0)))),
  o2 76 (.mv false (.s 75)),
  o3 77 76 true (.mv false (.s 3)),
  o3 78 76 true (.nil (.s 77)),
  o3 79 76 true (.fld 0 (.s 78)),
  o3 80 76 true (.fld 6 (.s 79)),
  o3 81 76 true (.load 232 6 1 false false 80),
  o3 82 76 true (.bin .eql (.s 81) (.k (.sc (.int .i64 0)))),
  o1 83 (.pick (.s 76) (.s 82) (.k (.sc (.bool false)))),
  o2 84 (.mv false (.s 83)),
  o3 85 84 true (.mv false (.s 3)),
  o3 86 84 true (.nil (.s 85)),
  o3 87 84 true (.fld 0 (.s 86)),
  o3 88 84 true (.fld 7 (.s 87)),
  o3 89 84 true (.load 232 7 1 false false 88),
  o3 90 84 true (.bin .eql (.s 89) (.k (.sc (.int .i64 0)))),
  o1 91 (.pick (.s 84) (.s 90) (.k (.sc (.bool false)))),
  o2 92 (.mv false (.s 91)),
  o3 93 92 true (.mv false (.s 3)),
  o3 94 92 true (.nil (.s 93)),
  o3 95 92 true (.fld 0 (.s 94)),
  o3 96 92 true (.fld 8 (.s 95)),
  o3 97 92 true (.load 232 8 1 false false 96),
  o3 98 92 true (.bin .eql (.s 97) (.k (.sc (.int .i64 0)))),
  o1 99 (.pick (.s 92) (.s 98) (.k (.sc (.bool false)))),
  o2 100 (.mv false (.s 99)),
  o3 101 100 true (.mv false (.s 3)),
  o3 102 100 true (.nil (.s 101)),
  o3 103 100 true (.fld 0 (.s 102)),
  o3 104 100 true (.fld 9 (.s 103)),
  o3 105 100 true (.load 232 9 1 false false 104),
  o3 106 100 true (.bin .eql (.s 105) (.k (.sc (.int .i64 0)))),
  o1 107 (.pick (.s 100) (.s 106) (.k (.sc (.bool false)))),
  o1 5 (.mv false (.s 107))]
def i_bbr_Check_3 : IC2 RW := .seq (.fin (.reg g_bbr_Check_3) [70, 71, 72, 73, 74, 75, 76, 77, 78, 79, 80, 81, 82, 83, 84, 85, 86, 87, 88, 89, 90, 91, 92, 93, 94, 95, 96, 97, 98, 99, 100, 101, 102, 103, 104, 105, 106, 107] []) i_bbr_Check_2
def g_bbr_Check_2 : List (IStep2 RW) := [o1 11 (.mv false (.s 3)),
  o1 12 (.nil (.s 11)),
  o1 13 (.fld 0 (.s 12)),
  o1 14 (.fld 0 (.s 13)),
  o1 15 (.load 232 0 1 false false 14),
  o1 16 (.bin .eql (.s 15) (.k (.sc (.int .i64 3)))),
  o2 17 (.mv false (.s 16)),
  o3 18 17 true (.mv false (.s 3)),
  o3 19 17 true (.nil (.s 18)),
  o3 20 17 true (.fld 0 (.s 19)),
  o3 21 17 true (.fld 1 (.s 20)),
  o3 22 17 true (.load 232 1 1 false false 21),
  o3 23 17 true (.bin .geq (.s 22) (.k (.sc (.int .i64 1)))),
  o1 24 (.pick (.s 17) (.s 23) (.k (.sc (.bool false)))),
  o2 25 (.mv false (.s 24)),
  o3 26 25 true (.mv false (.s 3)),
  o3 27 25 true (.nil (.s 26)),
  o3 28 25 true (.fld 0 (.s 27)),
  o3 29 25 true (.fld 1 (.s 28)),
  o3 30 25 true (.load 232 1 1 false false 29),
  o3 31 25 true (.bin .leq (.s 30) (.k (.sc (.int .i64 65000)))),
  o1 32 (.pick (.s 25) (.s 31) (.k (.sc (.bool false)))),
  o2 33 (.mv false (.s 32)),
  o3 34 33 true (.mv false (.s 3)),
  o3 35 33 true (.nil (.s 34)),
  o3 36 33 true (.fld 0 (.s 35)),
  o3 37 33 true (.fld 2 (.s 36)),
  o3 38 33 true (.load 232 2 1 false false 37),
  o3 39 33 true (.mv false (.s 3)),
  o3 40 33 true (.nil (.s 39)),
  o3 41 33 true (.fld 0 (.s 40)),
  o3 42 33 true (.fld 1 (.s 41)),
  o3 43 33 true (.load 232 1 1 false false 42),
  o3 44 33 true (.bin .geq (.s 38) (.s 43)),
  o1 45 (.pick (.s 33) (.s 44) (.k (.sc (.bool false)))),
  o2 46 (.mv false (.s 45)),
  o3 47 46 true (.mv false (.s 3)),
  o3 48 46 true (.nil (.s 47)),
  o3 49 46 true (.fld 0 (.s 48)),
  o3 50 46 true (.fld 2 (.s 49)),
  o3 51 46 true (.load 232 2 1 false false 50),
  o3 52 46 true (.bin .leq (.s 51) (.k (.sc (.int .i64 1073741824)))),
  o1 53 (.pick (.s 46) (.s 52) (.k (.sc (.bool false)))),
  o2 54 (.mv false (.s 53)),
  o3 55 54 true (.mv false (.s 3)),
  o3 56 54 true (.nil (.s 55)),
  o3 57 54 true (.fld 0 (.s 56)),
  o3 58 54 true (.fld 3 (.s 57)),
  o3 59 54 true (.load 232 3 1 false false 58),
  o3 60 54 true (.bin .eql (.s 59) (.k (.sc (.int .i64 1073741824)))),
  o1 61 (.pick (.s 54) (.s 60) (.k (.sc (.bool false)))),
  o2 62 (.mv false (.s 61)),
  o3 63 62 true (.mv false (.s 3)),
  o3 64 62 true (.nil (.s 63)),
  o3 65 62 true (.fld 0 (.s 64)),
  o3 66 62 true (.fld 4 (.s 65)),
  o3 67 62 true (.load 232 4 1 false false 66),
  o3 68 62 true (.bin .eql (.s 67) (.k (.sc (.int .i64 0)))),
  o1 69 (.pick (.s 62) (.s 68) (.k (.sc (.bool false)))),
  o1 4 (.mv false (.s 69))]
def i_bbr_Check_4 : IC2 RW := .seq (.fin (.reg g_bbr_Check_2) [11, 12, 13, 14, 15, 16, 17, 18, 19, 20, 21, 22, 23, 24, 25, 26, 27, 28, 29, 30, 31, 32, 33, 34, 35, 36, 37, 38, 39, 40, 41, 42, 43, 44, 45, 46, 47, 48, 49, 50, 51, 52, 53, 54, 55, 56, 57, 58, 59, 60, 61, 62, 63, 64, 65, 66, 67, 68, 69] []) i_bbr_Check_3
def g_bbr_Check_0 : List (IStep2 RW) := [o1 1 (.box 209 22 false (.s 0)),
  o1 2 (.mv false (.k (.sc (.int .i64 0))))]
def g_bbr_Check_1 : List (IStep2 RW) := [o1 8 (.load 209 0 22 true false 1),
  o1 9 (.build [.sc (.int .i64 0), .sc (.int .i64 0), .sc (.int .i64 0), .sc (.int .i64 0), .sc (.int .i64 0), .sc (.int .i64 0), .sc (.int .i64 0), .sc (.int .i64 0), .sc (.int .i64 0), .sc (.int .i64 0), .sc (.int .i64 0), .row false (.rEntry []), .sc (.int .i64 0), .sc (.int .i64 0), .sc (.int .i64 0), .sc (.int .i64 0), .sc (.int .i64 0), .sc (.int .i64 0), .sc (.int .i64 0), .sc (.int .i64 0), .sc (.int .i64 0), .sc (.int .i64 0)] [(0, 22, .s 8)]),
  o1 10 (.box 232 22 false (.s 9)),
  o1 3 (.mv false (.s 10))]
def i_bbr_Check_5 : IC2 RW := .seq (.fin (.reg g_bbr_Check_0) [0, 2] []) (.seq (.fin (.reg g_bbr_Check_1) [1, 8, 9, 10] [(209, 22)]) i_bbr_Check_4)
def fn_bbr_Check : IFn2 RW := ⟨12, 1, 209, 256, [(209, 22), (232, 22)], [], [.slot 2], i_bbr_Check_5⟩
def g_bbr_Timeout_0 : List (IStep2 RW) := [o1 2 (.box 24 22 false (.s 0)),
  o1 4 (.alloc 47 [.sc (.int .i64 0), .sc (.int .i64 0), .sc (.int .i64 0), .sc (.int .i64 0), .sc (.int .i64 0), .sc (.int .i64 0), .sc (.int .i64 0), .sc (.int .i64 0), .sc (.int .i64 0), .sc (.int .i64 0), .sc (.int .i64 0), .row false (.rEntry []), .sc (.int .i64 0), .sc (.int .i64 0), .sc (.int .i64 0), .sc (.int .i64 0), .sc (.int .i64 0), .sc (.int .i64 0), .sc (.int .i64 0), .sc (.int .i64 0), .sc (.int .i64 0), .sc (.int .i64 0)]),
  o1 5 (.mv false (.k (.sc (.int .i64 0))))]
def g_bbr_Timeout_1 : List (IStep2 RW) := [o1 7 (.load 24 0 22 true false 2),
  o1 8 (.call 12 [(false, .s 7)] []),
  o1 9 (.bin .neq (.s 8) (.k (.sc (.int .i64 0)))),
  o1 6 (.mv false (.s 9))]
def g_bbr_Timeout_2 : List (IStep2 RW) := [o1 10 (.build [.sc (.int .i64 0), .sc (.int .i64 0), .sc (.int .i64 0), .sc (.int .i64 0), .sc (.int .i64 0), .sc (.int .i64 0), .sc (.int .i64 0), .sc (.int .i64 0), .sc (.int .i64 0), .sc (.int .i64 0), .sc (.int .i64 0), .row false (.rEntry []), .sc (.int .i64 0), .sc (.int .i64 0), .sc (.int .i64 0), .sc (.int .i64 0), .sc (.int .i64 0), .sc (.int .i64 0), .sc (.int .i64 0), .sc (.int .i64 0), .sc (.int .i64 0), .sc (.int .i64 0)] []),
  o0 (.store 47 0 22 false 4 (.s 10)),
  o1 5 (.mv false (.k (.sc (.int .i64 230))))]
def g_bbr_Timeout_3 : List (IStep2 RW) := [o1 12 (.mv false (.s 1)),
  o1 13 (.bslice 3 1 [(0, 1, .s 12)]),
  o1 14 (.call 17 [(false, .k (.sc (.int .i64 1073741824))), (false, .s 13)] []),
  o1 15 (.un .not (.s 14)),
  o1 11 (.mv false (.s 15))]
def g_bbr_Timeout_4 : List (IStep2 RW) := [o1 16 (.build [.sc (.int .i64 0), .sc (.int .i64 0), .sc (.int .i64 0), .sc (.int .i64 0), .sc (.int .i64 0), .sc (.int .i64 0), .sc (.int .i64 0), .sc (.int .i64 0), .sc (.int .i64 0), .sc (.int .i64 0), .sc (.int .i64 0), .row false (.rEntry []), .sc (.int .i64 0), .sc (.int .i64 0), .sc (.int .i64 0), .sc (.int .i64 0), .sc (.int .i64 0), .sc (.int .i64 0), .sc (.int .i64 0), .sc (.int .i64 0), .sc (.int .i64 0), .sc (.int .i64 0)] []),
  o0 (.store 47 0 22 false 4 (.s 16)),
  o1 5 (.mv false (.k (.sc (.int .i64 2))))]
def g_bbr_Timeout_5 : List (IStep2 RW) := [o1 17 (.fld 2 (.s 2)),
  o1 18 (.load 24 2 1 false false 17),
  o1 19 (.fld 1 (.s 2)),
  o1 20 (.load 24 1 1 false false 19),
  o1 21 (.fld 21 (.s 2)),
  o0 (.store 24 21 1 false 21 (.s 18)),
  o1 22 (.fld 2 (.s 2)),
  o0 (.store 24 2 1 false 22 (.s 20))]
def g_bbr_Timeout_6 : List (IStep2 RW) := [o1 23 (.load 24 0 22 true false 2),
  o0 (.store 47 0 22 false 4 (.s 23)),
  o1 5 (.mv false (.k (.sc (.int .i64 0))))]
def i_bbr_Timeout_0 : IC2 RW := .seq (.fin (.reg g_bbr_Timeout_0) [0, 5] []) (.seq (.blk 0 (.seq (.fin (.reg g_bbr_Timeout_1) [7, 8, 9] []) (.cond (.s 6) (.seq (.fin (.reg g_bbr_Timeout_2) [1, 2, 6, 10] [(24, 22)]) (.ret)) (.seq (.fin (.reg g_bbr_Timeout_3) [1, 6, 12, 13, 14, 15] []) (.fin (.cond (.s 11) (.seq (.fin (.reg g_bbr_Timeout_4) [2, 11, 16] [(24, 22)]) (.ret)) (.skip)) [11] []))))) (.seq (.fin (.reg g_bbr_Timeout_5) [17, 18, 19, 20, 21, 22] []) (.seq (.fin (.reg g_bbr_Timeout_6) [2, 23] [(24, 22)]) (.ret))))
def fn_bbr_Timeout : IFn2 RW := ⟨7, 2, 24, 80, [(24, 22), (47, 22)], [], [.cell 4 47 22 true, .slot 5], i_bbr_Timeout_0⟩
def g_ref15_Plain_3 : List (IStep2 RW) := [o1 34 (.mv false (.s 2)),
  o1 35 (.un .not (.s 34)),
  o2 36 (.mv false (.s 35)),
  o3 37 36 true (.fld 10 (.s 3)),
  o3 38 36 true (.load 97 10 1 false false 37),
  o3 39 36 true (.bin .neq (.s 38) (.k (.sc (.int .i64 0)))),
  ⟨some 40, .mv false (.s 39), (some (36, true)), true⟩,
  o3 41 40 false (.fld 11 (.s 3)),
  o3 42 40 false (.load 97 11 1 false false 41),
  o3 43 40 false (.len false (.s 42)),
  o3 44 40 false (.bin .gtr (.s 43) (.k (.sc (.int .i64 0)))),
  o3 45 36 true (.pick (.s 40) (.k (.sc (.bool true))) (.s 44)),
  ⟨some 46, .mv false (.s 45), (some (36, true)), true⟩,
  o3 47 46 false (.fld 12 (.s 3)),
  o3 48 46 false (.load 97 12 1 false false 47),
  o3 49 46 false (.bin .neq (.s 48) (.k (.sc (.int .i64 0)))),
  o3 50 36 true (.pick (.s 46) (.k (.sc (.bool true))) (.s 49)),
  ⟨some 51, .mv false (.s 50), (some (36, true)), true⟩,
  o3 52 51 false (.fld 13 (.s 3)),
  o3 53 51 false (.load 97 13 1 false false 52),
  o3 54 51 false (.bin .neq (.s 53) (.k (.sc (.int .i64 0)))),
  o3 55 36 true (.pick (.s 51) (.k (.sc (.bool true))) (.s 54)),
  ⟨some 56, .mv false (.s 55), (some (36, true)), true⟩,
  o3 57 56 false (.fld 14 (.s 3)),
  o3 58 56 false (.load 97 14 1 false false 57),
  o3 59 56 false (.bin .neq (.s 58) (.k (.sc (.int .i64 0)))),
  o3 60 36 true (.pick (.s 56) (.k (.sc (.bool true))) (.s 59)),
  ⟨some 61, .mv false (.s 60), (some (36, true)), true⟩,
  o3 62 61 false (.fld 15 (.s 3)),
  o3 63 61 false (.load 97 15 1 false false 62),
  o3 64 61 false (.bin .neq (.s 63) (.k (.sc (.int .i64 0)))),
  o3 65 36 true (.pick (.s 61) (.k (.sc (.bool true))) (.s 64)),
  ⟨some 66, .mv false (.s 65), (some (36, true)), true⟩,
  o3 67 66 false (.fld 16 (.s 3)),
  o3 68 66 false (.load 97 16 1 false false 67),
  o3 69 66 false (.bin .neq (.s 68) (.k (.sc (.int .i64 0)))),
  o3 70 36 true (.pick (.s 66) (.k (.sc (.bool true))) (.s 69)),
  ⟨some 71, .mv false (.s 70), (some (36, true)), true⟩,
  o3 72 71 false (.fld 17 (.s 3)),
  o3 73 71 false (.load 97 17 1 false false 72),
  o3 74 71 false (.bin .neq (.s 73) (.k (.sc (.int .i64 0)))),
  o3 75 36 true (.pick (.s 71) (.k (.sc (.bool true))) (.s 74)),
  ⟨some 76, .mv false (.s 75), (some (36, true)), true⟩,
  o3 77 76 false (.fld 18 (.s 3)),
  o3 78 76 false (.load 97 18 1 false false 77),
  o3 79 76 false (.bin .neq (.s 78) (.k (.sc (.int .i64 0)))),
  o3 80 36 true (.pick (.s 76) (.k (.sc (.bool true))) (.s 79)),
  ⟨some 81, .mv false (.s 80), (some (36, true)), true⟩,
  o3 82 81 false (.fld 19 (.s 3)),
  o3 83 81 false (.load 97 19 1 false false 82),
  o3 84 81 false (.bin .neq (.s 83) (.k (.sc (.int .i64 0)))),
  o3 85 36 true (.pick (.s 81) (.k (.sc (.bool true))) (.s 84)),
  ⟨some 86, .mv false (.s 85), (some (36, true)), true⟩,
  o3 87 86 false (.fld 20 (.s 3)),
  o3 88 86 false (.load 97 20 1 false false 87),
  o3 89 86 false (.bin .neq (.s 88) (.k (.sc (.int .i64 0)))),
  o3 90 36 true (.pick (.s 86) (.k (.sc (.bool true))) (.s 89)),
  ⟨some 91, .mv false (.s 90), (some (36, true)), true⟩,
  o3 92 91 false (.fld 21 (.s 3)),
  o3 93 91 false (.load 97 21 1 false false 92),
  o3 94 91 false (.bin .neq (.s 93) (.k (.sc (.int .i64 0)))),
  o3 95 36 true (.pick (.s 91) (.k (.sc (.bool true))) (.s 94)),
  o1 96 (.pick (.s 36) (.s 95) (.k (.sc (.bool false))))]
def g_ref15_Plain_4 : List (IStep2 RW) := [o1 6 (.mv false (.k (.sc (.bool false))))]
def g_ref15_Plain_5 : List (IStep2 RW) := [o1 6 (.mv false (.k (.sc (.bool true))))]
def i_ref15_Plain_0 : IC2 RW := .seq (.seq (.fin (.reg g_ref15_Plain_3) [2, 3, 34, 35, 36, 37, 38, 39, 40, 41, 42, 43, 44, 45, 46, 47, 48, 49, 50, 51, 52, 53, 54, 55, 56, 57, 58, 59, 60, 61, 62, 63, 64, 65, 66, 67, 68, 69, 70, 71, 72, 73, 74, 75, 76, 77, 78, 79, 80, 81, 82, 83, 84, 85, 86, 87, 88, 89, 90, 91, 92, 93, 94, 95] [(97, 22)]) (.fin (.cond (.s 96) (.seq (.fin (.reg g_ref15_Plain_4) [96] []) (.ret)) (.skip)) [96] [])) (.seq (.reg g_ref15_Plain_5) (.ret))
def g_ref15_Plain_0 : List (IStep2 RW) := [o1 3 (.box 97 22 false (.s 0)),
  o1 6 (.mv false (.k (.sc (.bool false))))]
def g_ref15_Plain_1 : List (IStep2 RW) := [o1 7 (.mv false (.s 1)),
  o1 8 (.un .not (.s 7)),
  o2 9 (.mv false (.s 8)),
  o3 10 9 true (.fld 5 (.s 3)),
  o3 11 9 true (.load 97 5 1 false false 10),
  o3 12 9 true (.bin .neq (.s 11) (.k (.sc (.int .i64 0)))),
  ⟨some 13, .mv false (.s 12), (some (9, true)), true⟩,
  o3 14 13 false (.fld 6 (.s 3)),
  o3 15 13 false (.load 97 6 1 false false 14),
  o3 16 13 false (.bin .neq (.s 15) (.k (.sc (.int .i64 0)))),
  o3 17 9 true (.pick (.s 13) (.k (.sc (.bool true))) (.s 16)),
  ⟨some 18, .mv false (.s 17), (some (9, true)), true⟩,
  o3 19 18 false (.fld 7 (.s 3)),
  o3 20 18 false (.load 97 7 1 false false 19),
  o3 21 18 false (.bin .neq (.s 20) (.k (.sc (.int .i64 0)))),
  o3 22 9 true (.pick (.s 18) (.k (.sc (.bool true))) (.s 21)),
  ⟨some 23, .mv false (.s 22), (some (9, true)), true⟩,
  o3 24 23 false (.fld 8 (.s 3)),
  o3 25 23 false (.load 97 8 1 false false 24),
  o3 26 23 false (.bin .neq (.s 25) (.k (.sc (.int .i64 0)))),
  o3 27 9 true (.pick (.s 23) (.k (.sc (.bool true))) (.s 26)),
  ⟨some 28, .mv false (.s 27), (some (9, true)), true⟩,
  o3 29 28 false (.fld 9 (.s 3)),
  o3 30 28 false (.load 97 9 1 false false 29),
  o3 31 28 false (.bin .neq (.s 30) (.k (.sc (.int .i64 0)))),
  o3 32 9 true (.pick (.s 28) (.k (.sc (.bool true))) (.s 31)),
  o1 33 (.pick (.s 9) (.s 32) (.k (.sc (.bool false))))]
def g_ref15_Plain_2 : List (IStep2 RW) := [o1 6 (.mv false (.k (.sc (.bool false))))]
def i_ref15_Plain_1 : IC2 RW := .seq (.fin (.reg g_ref15_Plain_0) [0, 6] []) (.seq (.seq (.fin (.reg g_ref15_Plain_1) [1, 7, 8, 9, 10, 11, 12, 13, 14, 15, 16, 17, 18, 19, 20, 21, 22, 23, 24, 25, 26, 27, 28, 29, 30, 31, 32] []) (.fin (.cond (.s 33) (.seq (.fin (.reg g_ref15_Plain_2) [2, 3, 33] [(97, 22)]) (.ret)) (.skip)) [33] [])) i_ref15_Plain_0)
def fn_ref15_Plain : IFn2 RW := ⟨33, 3, 97, 128, [(97, 22)], [], [.slot 6], i_ref15_Plain_1⟩
def g_ref12_time_0 : List (IStep2 RW) := [o1 2 (.mv false (.k (.sc (.bool false))))]
def g_ref12_time_1 : List (IStep2 RW) := [o1 3 (.mv false (.s 0)),
  o1 4 (.bin .geq (.s 3) (.k (.sc (.int .i64 0)))),
  o2 5 (.mv false (.s 4)),
  o3 6 5 true (.mv false (.s 0)),
  o3 7 5 true (.bin .leq (.s 6) (.k (.sc (.int .i64 1125899906842624)))),
  o1 8 (.pick (.s 5) (.s 7) (.k (.sc (.bool false)))),
  o1 2 (.mv false (.s 8))]
def i_ref12_time_0 : IC2 RW := .seq (.fin (.reg g_ref12_time_0) [2] []) (.seq (.fin (.reg g_ref12_time_1) [0, 3, 4, 5, 6, 7, 8] []) (.ret))
def fn_ref12_time : IFn2 RW := ⟨42, 1, 9, 16, [], [], [.slot 2], i_ref12_time_0⟩
def g_ref12_value_0 : List (IStep2 RW) := [o1 2 (.mv false (.k (.sc (.bool false))))]
def g_ref12_value_1 : List (IStep2 RW) := [o1 3 (.mv false (.s 0)),
  o1 4 (.bin .geq (.s 3) (.k (.sc (.int .i64 0)))),
  o2 5 (.mv false (.s 4)),
  o3 6 5 true (.mv false (.s 0)),
  o3 7 5 true (.bin .leq (.s 6) (.k (.sc (.int .i64 1152921504606846976)))),
  o1 8 (.pick (.s 5) (.s 7) (.k (.sc (.bool false)))),
  o1 2 (.mv false (.s 8))]
def i_ref12_value_0 : IC2 RW := .seq (.fin (.reg g_ref12_value_0) [2] []) (.seq (.fin (.reg g_ref12_value_1) [0, 3, 4, 5, 6, 7, 8] []) (.ret))
def fn_ref12_value : IFn2 RW := ⟨43, 1, 9, 16, [], [], [.slot 2], i_ref12_value_0⟩
def g_ref12_Check_6 : List (IStep2 RW) := [o1 46 (.mv false (.s 5)),
  o1 47 (.bin .gtr (.s 46) (.k (.sc (.int .i64 0)))),
  o2 48 (.mv false (.s 47)),
  o3 49 48 true (.mv false (.s 1)),
  ⟨some 50, .mv false (.s 49), (some (48, true)), true⟩,
  o3 51 50 true (.mv false (.s 0)),
  o3 52 50 true (.mv false (.s 5)),
  o3 53 50 true (.idx 2 (.s 51) (.s 52)),
  o3 54 50 true (.fld 1 (.s 53)),
  o3 55 50 true (.loade 1 false 54),
  o3 56 50 true (.mv false (.s 0)),
  o3 57 50 true (.mv false (.s 5)),
  o3 58 50 true (.bin .sub (.s 57) (.k (.sc (.int .i64 1)))),
  o3 59 50 true (.idx 2 (.s 56) (.s 58)),
  o3 60 50 true (.fld 1 (.s 59)),
  o3 61 50 true (.loade 1 false 60),
  o3 62 50 true (.bin .geq (.s 55) (.s 61)),
  o3 63 48 true (.pick (.s 50) (.s 62) (.k (.sc (.bool false)))),
  ⟨some 64, .mv false (.s 63), (some (48, true)), true⟩,
  o3 65 64 false (.mv false (.s 1)),
  o3 66 64 false (.un .not (.s 65)),
  ⟨some 67, .mv false (.s 66), (some (64, false)), true⟩,
  o3 68 67 true (.mv false (.s 0)),
  o3 69 67 true (.mv false (.s 5)),
  o3 70 67 true (.idx 2 (.s 68) (.s 69)),
  o3 71 67 true (.fld 1 (.s 70)),
  o3 72 67 true (.loade 1 false 71),
  o3 73 67 true (.mv false (.s 0)),
  o3 74 67 true (.mv false (.s 5)),
  o3 75 67 true (.bin .sub (.s 74) (.k (.sc (.int .i64 1)))),
  o3 76 67 true (.idx 2 (.s 73) (.s 75)),
  o3 77 67 true (.fld 1 (.s 76)),
  o3 78 67 true (.loade 1 false 77),
  o3 79 67 true (.bin .leq (.s 72) (.s 78)),
  o3 80 64 false (.pick (.s 67) (.s 79) (.k (.sc (.bool false)))),
  o3 81 48 true (.pick (.s 64) (.k (.sc (.bool true))) (.s 80)),
  o1 82 (.pick (.s 48) (.s 81) (.k (.sc (.bool false))))]
def g_ref12_Check_7 : List (IStep2 RW) := [o1 4 (.mv false (.k (.sc (.int .i64 2))))]
def i_ref12_Check_0 : IC2 RW := .seq (.fin (.reg g_ref12_Check_6) [46, 47, 48, 49, 50, 51, 52, 53, 54, 55, 56, 57, 58, 59, 60, 61, 62, 63, 64, 65, 66, 67, 68, 69, 70, 71, 72, 73, 74, 75, 76, 77, 78, 79, 80, 81] []) (.fin (.cond (.s 82) (.seq (.fin (.reg g_ref12_Check_7) [0, 1, 5, 82] []) (.ret)) (.skip)) [82] [])
def g_ref12_Check_4 : List (IStep2 RW) := [o1 12 (.mv false (.s 0)),
  o1 13 (.mv false (.s 5)),
  o1 14 (.idx 2 (.s 12) (.s 13)),
  o1 15 (.fld 0 (.s 14)),
  o1 16 (.loade 1 false 15),
  o1 17 (.call 42 [(false, .s 16)] []),
  o1 18 (.un .not (.s 17)),
  o2 19 (.mv false (.s 18)),
  o3 20 19 false (.mv false (.s 0)),
  o3 21 19 false (.mv false (.s 5)),
  o3 22 19 false (.idx 2 (.s 20) (.s 21)),
  o3 23 19 false (.fld 1 (.s 22)),
  o3 24 19 false (.loade 1 false 23),
  o3 25 19 false (.call 43 [(false, .s 24)] []),
  o3 26 19 false (.un .not (.s 25)),
  o1 27 (.pick (.s 19) (.k (.sc (.bool true))) (.s 26)),
  o2 28 (.mv false (.s 27)),
  o3 29 28 false (.mv false (.s 5)),
  o3 30 28 false (.bin .gtr (.s 29) (.k (.sc (.int .i64 0)))),
  ⟨some 31, .mv false (.s 30), (some (28, false)), true⟩,
  o3 32 31 true (.mv false (.s 0)),
  o3 33 31 true (.mv false (.s 5)),
  o3 34 31 true (.idx 2 (.s 32) (.s 33)),
  o3 35 31 true (.fld 0 (.s 34)),
  o3 36 31 true (.loade 1 false 35),
  o3 37 31 true (.mv false (.s 0)),
  o3 38 31 true (.mv false (.s 5)),
  o3 39 31 true (.bin .sub (.s 38) (.k (.sc (.int .i64 1)))),
  o3 40 31 true (.idx 2 (.s 37) (.s 39)),
  o3 41 31 true (.fld 0 (.s 40)),
  o3 42 31 true (.loade 1 false 41),
  o3 43 31 true (.bin .leq (.s 36) (.s 42)),
  o3 44 28 false (.pick (.s 31) (.s 43) (.k (.sc (.bool false)))),
  o1 45 (.pick (.s 28) (.k (.sc (.bool true))) (.s 44))]
def g_ref12_Check_5 : List (IStep2 RW) := [o1 4 (.mv false (.k (.sc (.int .i64 2))))]
def i_ref12_Check_1 : IC2 RW := .seq (.seq (.fin (.reg g_ref12_Check_4) [12, 13, 14, 15, 16, 17, 18, 19, 20, 21, 22, 23, 24, 25, 26, 27, 28, 29, 30, 31, 32, 33, 34, 35, 36, 37, 38, 39, 40, 41, 42, 43, 44] []) (.fin (.cond (.s 45) (.seq (.fin (.reg g_ref12_Check_5) [0, 1, 5, 45] []) (.ret)) (.skip)) [45] [])) i_ref12_Check_0
def i_ref12_Check_2 : IC2 RW := .blk 1 i_ref12_Check_1
def g_ref12_Check_3 : List (IStep2 RW) := [o1 10 (.mv false (.s 5)),
  o1 11 (.bin .add (.s 10) (.k (.sc (.int .i64 1)))),
  o1 5 (.mv false (.s 11))]
def i_ref12_Check_3 : IC2 RW := .fin (.reg g_ref12_Check_3) [10, 11] []
def i_ref12_Check_4 : IC2 RW := .seq i_ref12_Check_2 i_ref12_Check_3
def g_ref12_Check_2 : List (IStep2 RW) := [o1 6 (.mv false (.s 5)),
  o1 7 (.mv false (.s 0)),
  o1 8 (.len false (.s 7)),
  o1 9 (.bin .lss (.s 6) (.s 8))]
def i_ref12_Check_5 : IC2 RW := .seq (.seq (.fin (.reg g_ref12_Check_2) [6, 7, 8] []) (.fin (.cond (.s 9) (.skip) (.clr [0, 1, 5, 9] [] (.exit 0))) [9] [])) i_ref12_Check_4
def i_ref12_Check_6 : IC2 RW := .loop i_ref12_Check_5
def i_ref12_Check_7 : IC2 RW := .blk 0 i_ref12_Check_6
def g_ref12_Check_1 : List (IStep2 RW) := [o1 5 (.mv false (.k (.sc (.int .i64 0))))]
def i_ref12_Check_8 : IC2 RW := .seq (.reg g_ref12_Check_1) i_ref12_Check_7
def g_ref12_Check_8 : List (IStep2 RW) := [o1 4 (.mv false (.k (.sc (.int .i64 0))))]
def i_ref12_Check_9 : IC2 RW := .seq (.reg g_ref12_Check_8) (.ret)
def i_ref12_Check_10 : IC2 RW := .seq i_ref12_Check_8 i_ref12_Check_9
def g_ref12_Check_0 : List (IStep2 RW) := [o1 4 (.mv false (.k (.sc (.int .i64 0))))]
def i_ref12_Check_11 : IC2 RW := .seq (.fin (.reg g_ref12_Check_0) [4] []) i_ref12_Check_10
def fn_ref12_Check : IFn2 RW := ⟨34, 2, 83, 96, [], [], [.slot 4], i_ref12_Check_11⟩
def g_ref18_time_0 : List (IStep2 RW) := [o1 2 (.mv false (.k (.sc (.bool false))))]
def g_ref18_time_1 : List (IStep2 RW) := [o1 3 (.mv false (.s 0)),
  o1 4 (.bin .geq (.s 3) (.k (.sc (.int .i64 0)))),
  o2 5 (.mv false (.s 4)),
  o3 6 5 true (.mv false (.s 0)),
  o3 7 5 true (.bin .leq (.s 6) (.k (.sc (.int .i64 1125899906842624)))),
  o1 8 (.pick (.s 5) (.s 7) (.k (.sc (.bool false)))),
  o1 2 (.mv false (.s 8))]
def i_ref18_time_0 : IC2 RW := .seq (.fin (.reg g_ref18_time_0) [2] []) (.seq (.fin (.reg g_ref18_time_1) [0, 3, 4, 5, 6, 7, 8] []) (.ret))
def fn_ref18_time : IFn2 RW := ⟨35, 1, 9, 16, [], [], [.slot 2], i_ref18_time_0⟩
def g_ref15_Size_0 : List (IStep2 RW) := [o1 2 (.mv false (.k (.sc (.bool false))))]
def g_ref15_Size_1 : List (IStep2 RW) := [o1 3 (.mv false (.s 0)),
  o1 4 (.bin .geq (.s 3) (.k (.sc (.int .i64 0)))),
  o2 5 (.mv false (.s 4)),
  o3 6 5 true (.mv false (.s 0)),
  o3 7 5 true (.bin .leq (.s 6) (.k (.sc (.int .i64 1073741824)))),
  o1 8 (.pick (.s 5) (.s 7) (.k (.sc (.bool false)))),
  o1 2 (.mv false (.s 8))]
def i_ref15_Size_0 : IC2 RW := .seq (.fin (.reg g_ref15_Size_0) [2] []) (.seq (.fin (.reg g_ref15_Size_1) [0, 3, 4, 5, 6, 7, 8] []) (.ret))
def fn_ref15_Size : IFn2 RW := ⟨19, 1, 9, 16, [], [], [.slot 2], i_ref15_Size_0⟩
def g_ref18_Check_3 : List (IStep2 RW) := [o1 44 (.fld 10 (.s 1)),
  o1 45 (.load 153 10 1 false false 44),
  o1 46 (.bin .lss (.s 45) (.k (.sc (.int .i64 1)))),
  o2 47 (.mv false (.s 46)),
  o3 48 47 false (.fld 10 (.s 1)),
  o3 49 47 false (.load 153 10 1 false false 48),
  o3 50 47 false (.bin .gtr (.s 49) (.k (.sc (.int .i64 4)))),
  o1 51 (.pick (.s 47) (.k (.sc (.bool true))) (.s 50)),
  o2 52 (.mv false (.s 51)),
  o3 53 52 false (.fld 11 (.s 1)),
  o3 54 52 false (.load 153 11 1 false false 53),
  o3 55 52 false (.call 34 [(false, .s 54), (false, .k (.sc (.bool true)))] []),
  o3 56 52 false (.bin .neq (.s 55) (.k (.sc (.int .i64 0)))),
  o1 57 (.pick (.s 52) (.k (.sc (.bool true))) (.s 56)),
  o2 58 (.mv false (.s 57)),
  o3 59 58 false (.fld 12 (.s 1)),
  o3 60 58 false (.load 153 12 1 false false 59),
  o3 61 58 false (.call 35 [(false, .s 60)] []),
  o3 62 58 false (.un .not (.s 61)),
  o1 63 (.pick (.s 58) (.k (.sc (.bool true))) (.s 62)),
  o2 64 (.mv false (.s 63)),
  o3 65 64 false (.fld 13 (.s 1)),
  o3 66 64 false (.load 153 13 1 false false 65),
  o3 67 64 false (.call 35 [(false, .s 66)] []),
  o3 68 64 false (.un .not (.s 67)),
  o1 69 (.pick (.s 64) (.k (.sc (.bool true))) (.s 68)),
  o2 70 (.mv false (.s 69)),
  o3 71 70 false (.fld 15 (.s 1)),
  o3 72 70 false (.load 153 15 1 false false 71),
  o3 73 70 false (.call 35 [(false, .s 72)] []),
  o3 74 70 false (.un .not (.s 73)),
  o1 75 (.pick (.s 70) (.k (.sc (.bool true))) (.s 74)),
  o2 76 (.mv false (.s 75)),
  o3 77 76 false (.fld 19 (.s 1)),
  o3 78 76 false (.load 153 19 1 false false 77),
  o3 79 76 false (.call 35 [(false, .s 78)] []),
  o3 80 76 false (.un .not (.s 79)),
  o1 81 (.pick (.s 76) (.k (.sc (.bool true))) (.s 80)),
  o2 82 (.mv false (.s 81)),
  o3 83 82 false (.fld 20 (.s 1)),
  o3 84 82 false (.load 153 20 1 false false 83),
  o3 85 82 false (.call 35 [(false, .s 84)] []),
  o3 86 82 false (.un .not (.s 85)),
  o1 87 (.pick (.s 82) (.k (.sc (.bool true))) (.s 86)),
  o2 88 (.mv false (.s 87)),
  o3 89 88 false (.fld 14 (.s 1)),
  o3 90 88 false (.load 153 14 1 false false 89),
  o3 91 88 false (.call 35 [(false, .s 90)] []),
  o3 92 88 false (.un .not (.s 91)),
  o1 93 (.pick (.s 88) (.k (.sc (.bool true))) (.s 92))]
def i_ref18_Check_0 : IC2 RW := .fin (.reg g_ref18_Check_3) [44, 45, 46, 47, 48, 49, 50, 51, 52, 53, 54, 55, 56, 57, 58, 59, 60, 61, 62, 63, 64, 65, 66, 67, 68, 69, 70, 71, 72, 73, 74, 75, 76, 77, 78, 79, 80, 81, 82, 83, 84, 85, 86, 87, 88, 89, 90, 91, 92] []
def g_ref18_Check_4 : List (IStep2 RW) := [o1 2 (.mv false (.k (.sc (.int .i64 230))))]
def i_ref18_Check_1 : IC2 RW := .fin (.cond (.s 93) (.seq (.fin (.reg g_ref18_Check_4) [1, 93] [(153, 22)]) (.ret)) (.skip)) [93] []
def i_ref18_Check_2 : IC2 RW := .seq i_ref18_Check_0 i_ref18_Check_1
def g_ref18_Check_6 : List (IStep2 RW) := [o1 94 (.mv false (.s 3)),
  o1 95 (.fld 11 (.s 1)),
  o1 96 (.load 153 11 1 false false 95),
  o1 97 (.len false (.s 96)),
  o1 98 (.bin .lss (.s 94) (.s 97))]
def g_ref18_Check_8 : List (IStep2 RW) := [o1 101 (.fld 11 (.s 1)),
  o1 102 (.load 153 11 1 false false 101),
  o1 103 (.mv false (.s 3)),
  o1 104 (.idx 2 (.s 102) (.s 103)),
  o1 105 (.fld 1 (.s 104)),
  o1 106 (.loade 1 false 105),
  o1 107 (.bin .gtr (.s 106) (.k (.sc (.int .i64 1099511627776)))),
  o2 108 (.mv false (.s 107)),
  o3 109 108 false (.fld 11 (.s 1)),
  o3 110 108 false (.load 153 11 1 false false 109),
  o3 111 108 false (.mv false (.s 3)),
  o3 112 108 false (.idx 2 (.s 110) (.s 111)),
  o3 113 108 false (.fld 0 (.s 112)),
  o3 114 108 false (.loade 1 false 113),
  o3 115 108 false (.fld 14 (.s 1)),
  o3 116 108 false (.load 153 14 1 false false 115),
  o3 117 108 false (.bin .gtr (.s 114) (.s 116)),
  o1 118 (.pick (.s 108) (.k (.sc (.bool true))) (.s 117))]
def g_ref18_Check_9 : List (IStep2 RW) := [o1 2 (.mv false (.k (.sc (.int .i64 230))))]
def g_ref18_Check_7 : List (IStep2 RW) := [o1 99 (.mv false (.s 3)),
  o1 100 (.bin .add (.s 99) (.k (.sc (.int .i64 1)))),
  o1 3 (.mv false (.s 100))]
def i_ref18_Check_3 : IC2 RW := .seq (.seq (.fin (.reg g_ref18_Check_6) [94, 95, 96, 97] []) (.fin (.cond (.s 98) (.skip) (.clr [3, 98] [] (.exit 0))) [98] [])) (.seq (.blk 1 (.seq (.fin (.reg g_ref18_Check_8) [101, 102, 103, 104, 105, 106, 107, 108, 109, 110, 111, 112, 113, 114, 115, 116, 117] []) (.fin (.cond (.s 118) (.seq (.fin (.reg g_ref18_Check_9) [1, 3, 118] [(153, 22)]) (.ret)) (.skip)) [118] []))) (.fin (.reg g_ref18_Check_7) [99, 100] []))
def i_ref18_Check_4 : IC2 RW := .loop i_ref18_Check_3
def i_ref18_Check_5 : IC2 RW := .blk 0 i_ref18_Check_4
def g_ref18_Check_5 : List (IStep2 RW) := [o1 3 (.mv false (.k (.sc (.int .i64 0))))]
def i_ref18_Check_6 : IC2 RW := .seq (.reg g_ref18_Check_5) i_ref18_Check_5
def g_ref18_Check_10 : List (IStep2 RW) := [o1 119 (.fld 16 (.s 1)),
  o1 120 (.load 153 16 1 false false 119),
  o1 121 (.bin .lss (.s 120) (.k (.sc (.int .i64 0)))),
  o2 122 (.mv false (.s 121)),
  o3 123 122 false (.fld 16 (.s 1)),
  o3 124 122 false (.load 153 16 1 false false 123),
  o3 125 122 false (.bin .gtr (.s 124) (.k (.sc (.int .i64 1099511627776)))),
  o1 126 (.pick (.s 122) (.k (.sc (.bool true))) (.s 125)),
  o2 127 (.mv false (.s 126)),
  o3 128 127 false (.fld 17 (.s 1)),
  o3 129 127 false (.load 153 17 1 false false 128),
  o3 130 127 false (.bin .lss (.s 129) (.k (.sc (.int .i64 0)))),
  o1 131 (.pick (.s 127) (.k (.sc (.bool true))) (.s 130)),
  o2 132 (.mv false (.s 131)),
  o3 133 132 false (.fld 17 (.s 1)),
  o3 134 132 false (.load 153 17 1 false false 133),
  o3 135 132 false (.bin .gtr (.s 134) (.k (.sc (.int .i64 3)))),
  o1 136 (.pick (.s 132) (.k (.sc (.bool true))) (.s 135)),
  o2 137 (.mv false (.s 136)),
  o3 138 137 false (.fld 18 (.s 1)),
  o3 139 137 false (.load 153 18 1 false false 138),
  o3 140 137 false (.bin .lss (.s 139) (.k (.sc (.int .i64 0)))),
  o1 141 (.pick (.s 137) (.k (.sc (.bool true))) (.s 140)),
  o2 142 (.mv false (.s 141)),
  o3 143 142 false (.fld 18 (.s 1)),
  o3 144 142 false (.load 153 18 1 false false 143),
  o3 145 142 false (.bin .gtr (.s 144) (.k (.sc (.int .i64 7)))),
  o1 146 (.pick (.s 142) (.k (.sc (.bool true))) (.s 145)),
  o2 147 (.mv false (.s 146)),
  o3 148 147 false (.fld 21 (.s 1)),
  o3 149 147 false (.load 153 21 1 false false 148),
  o3 150 147 false (.call 19 [(false, .s 149)] []),
  o3 151 147 false (.un .not (.s 150)),
  o1 152 (.pick (.s 147) (.k (.sc (.bool true))) (.s 151))]
def g_ref18_Check_11 : List (IStep2 RW) := [o1 2 (.mv false (.k (.sc (.int .i64 230))))]
def g_ref18_Check_12 : List (IStep2 RW) := [o1 2 (.mv false (.k (.sc (.int .i64 0))))]
def i_ref18_Check_7 : IC2 RW := .seq (.seq (.fin (.reg g_ref18_Check_10) [1, 119, 120, 121, 122, 123, 124, 125, 126, 127, 128, 129, 130, 131, 132, 133, 134, 135, 136, 137, 138, 139, 140, 141, 142, 143, 144, 145, 146, 147, 148, 149, 150, 151] [(153, 22)]) (.fin (.cond (.s 152) (.seq (.fin (.reg g_ref18_Check_11) [152] []) (.ret)) (.skip)) [152] [])) (.seq (.reg g_ref18_Check_12) (.ret))
def i_ref18_Check_8 : IC2 RW := .seq i_ref18_Check_6 i_ref18_Check_7
def i_ref18_Check_9 : IC2 RW := .seq i_ref18_Check_2 i_ref18_Check_8
def g_ref18_Check_0 : List (IStep2 RW) := [o1 1 (.box 153 22 false (.s 0)),
  o1 2 (.mv false (.k (.sc (.int .i64 0))))]
def g_ref18_Check_1 : List (IStep2 RW) := [o1 4 (.fld 0 (.s 1)),
  o1 5 (.load 153 0 1 false false 4),
  o1 6 (.bin .neq (.s 5) (.k (.sc (.int .i64 3)))),
  o2 7 (.mv false (.s 6)),
  o3 8 7 false (.fld 1 (.s 1)),
  o3 9 7 false (.load 153 1 1 false false 8),
  o3 10 7 false (.bin .lss (.s 9) (.k (.sc (.int .i64 1)))),
  o1 11 (.pick (.s 7) (.k (.sc (.bool true))) (.s 10)),
  o2 12 (.mv false (.s 11)),
  o3 13 12 false (.fld 1 (.s 1)),
  o3 14 12 false (.load 153 1 1 false false 13),
  o3 15 12 false (.bin .gtr (.s 14) (.k (.sc (.int .i64 65000)))),
  o1 16 (.pick (.s 12) (.k (.sc (.bool true))) (.s 15)),
  o2 17 (.mv false (.s 16)),
  o3 18 17 false (.fld 2 (.s 1)),
  o3 19 17 false (.load 153 2 1 false false 18),
  o3 20 17 false (.fld 1 (.s 1)),
  o3 21 17 false (.load 153 1 1 false false 20),
  o3 22 17 false (.bin .lss (.s 19) (.s 21)),
  o1 23 (.pick (.s 17) (.k (.sc (.bool true))) (.s 22)),
  o2 24 (.mv false (.s 23)),
  o3 25 24 false (.fld 2 (.s 1)),
  o3 26 24 false (.load 153 2 1 false false 25),
  o3 27 24 false (.bin .gtr (.s 26) (.k (.sc (.int .i64 1073741824)))),
  o1 28 (.pick (.s 24) (.k (.sc (.bool true))) (.s 27)),
  o2 29 (.mv false (.s 28)),
  o3 30 29 false (.fld 3 (.s 1)),
  o3 31 29 false (.load 153 3 1 false false 30),
  o3 32 29 false (.bin .neq (.s 31) (.k (.sc (.int .i64 1073741824)))),
  o1 33 (.pick (.s 29) (.k (.sc (.bool true))) (.s 32)),
  o2 34 (.mv false (.s 33)),
  o3 35 34 false (.fld 4 (.s 1)),
  o3 36 34 false (.load 153 4 1 false false 35),
  o3 37 34 false (.bin .neq (.s 36) (.k (.sc (.int .i64 0)))),
  o1 38 (.pick (.s 34) (.k (.sc (.bool true))) (.s 37)),
  o2 39 (.mv false (.s 38)),
  o3 40 39 false (.load 153 0 22 true false 1),
  o3 41 39 false (.call 33 [(false, .s 40), (false, .k (.sc (.bool false))), (false, .k (.sc (.bool true)))] []),
  o3 42 39 false (.un .not (.s 41)),
  o1 43 (.pick (.s 39) (.k (.sc (.bool true))) (.s 42))]
def g_ref18_Check_2 : List (IStep2 RW) := [o1 2 (.mv false (.k (.sc (.int .i64 230))))]
def i_ref18_Check_10 : IC2 RW := .seq (.fin (.reg g_ref18_Check_0) [0, 2] []) (.seq (.seq (.fin (.reg g_ref18_Check_1) [4, 5, 6, 7, 8, 9, 10, 11, 12, 13, 14, 15, 16, 17, 18, 19, 20, 21, 22, 23, 24, 25, 26, 27, 28, 29, 30, 31, 32, 33, 34, 35, 36, 37, 38, 39, 40, 41, 42] []) (.fin (.cond (.s 43) (.seq (.fin (.reg g_ref18_Check_2) [1, 43] [(153, 22)]) (.ret)) (.skip)) [43] [])) i_ref18_Check_9)
def fn_ref18_Check : IFn2 RW := ⟨18, 1, 153, 176, [(153, 22)], [], [.slot 2], i_ref18_Check_10⟩
def g_ref18_Timeout_0 : List (IStep2 RW) := [o1 2 (.box 21 22 false (.s 0)),
  o1 4 (.alloc 44 [.sc (.int .i64 0), .sc (.int .i64 0), .sc (.int .i64 0), .sc (.int .i64 0), .sc (.int .i64 0), .sc (.int .i64 0), .sc (.int .i64 0), .sc (.int .i64 0), .sc (.int .i64 0), .sc (.int .i64 0), .sc (.int .i64 0), .row false (.rEntry []), .sc (.int .i64 0), .sc (.int .i64 0), .sc (.int .i64 0), .sc (.int .i64 0), .sc (.int .i64 0), .sc (.int .i64 0), .sc (.int .i64 0), .sc (.int .i64 0), .sc (.int .i64 0), .sc (.int .i64 0)]),
  o1 5 (.mv false (.k (.sc (.int .i64 0))))]
def g_ref18_Timeout_1 : List (IStep2 RW) := [o1 6 (.load 21 0 22 true false 2),
  o1 7 (.call 18 [(false, .s 6)] []),
  o1 8 (.bin .neq (.s 7) (.k (.sc (.int .i64 0))))]
def g_ref18_Timeout_2 : List (IStep2 RW) := [o1 9 (.build [.sc (.int .i64 0), .sc (.int .i64 0), .sc (.int .i64 0), .sc (.int .i64 0), .sc (.int .i64 0), .sc (.int .i64 0), .sc (.int .i64 0), .sc (.int .i64 0), .sc (.int .i64 0), .sc (.int .i64 0), .sc (.int .i64 0), .row false (.rEntry []), .sc (.int .i64 0), .sc (.int .i64 0), .sc (.int .i64 0), .sc (.int .i64 0), .sc (.int .i64 0), .sc (.int .i64 0), .sc (.int .i64 0), .sc (.int .i64 0), .sc (.int .i64 0), .sc (.int .i64 0)] []),
  o0 (.store 44 0 22 false 4 (.s 9)),
  o1 5 (.mv false (.k (.sc (.int .i64 230))))]
def g_ref18_Timeout_3 : List (IStep2 RW) := [o1 10 (.mv false (.s 1)),
  o1 11 (.call 19 [(false, .s 10)] []),
  o1 12 (.un .not (.s 11))]
def g_ref18_Timeout_4 : List (IStep2 RW) := [o1 13 (.build [.sc (.int .i64 0), .sc (.int .i64 0), .sc (.int .i64 0), .sc (.int .i64 0), .sc (.int .i64 0), .sc (.int .i64 0), .sc (.int .i64 0), .sc (.int .i64 0), .sc (.int .i64 0), .sc (.int .i64 0), .sc (.int .i64 0), .row false (.rEntry []), .sc (.int .i64 0), .sc (.int .i64 0), .sc (.int .i64 0), .sc (.int .i64 0), .sc (.int .i64 0), .sc (.int .i64 0), .sc (.int .i64 0), .sc (.int .i64 0), .sc (.int .i64 0), .sc (.int .i64 0)] []),
  o0 (.store 44 0 22 false 4 (.s 13)),
  o1 5 (.mv false (.k (.sc (.int .i64 2))))]
def g_ref18_Timeout_5 : List (IStep2 RW) := [o1 14 (.fld 2 (.s 2)),
  o1 15 (.load 21 2 1 false false 14),
  o1 16 (.fld 21 (.s 2)),
  o0 (.store 21 21 1 false 16 (.s 15))]
def g_ref18_Timeout_6 : List (IStep2 RW) := [o1 17 (.fld 1 (.s 2)),
  o1 18 (.load 21 1 1 false false 17),
  o1 19 (.fld 2 (.s 2)),
  o0 (.store 21 2 1 false 19 (.s 18))]
def g_ref18_Timeout_7 : List (IStep2 RW) := [o1 20 (.load 21 0 22 true false 2),
  o0 (.store 44 0 22 false 4 (.s 20)),
  o1 5 (.mv false (.k (.sc (.int .i64 0))))]
def i_ref18_Timeout_0 : IC2 RW := .seq (.fin (.reg g_ref18_Timeout_0) [0, 5] []) (.seq (.seq (.fin (.reg g_ref18_Timeout_1) [6, 7] []) (.fin (.cond (.s 8) (.seq (.fin (.reg g_ref18_Timeout_2) [1, 2, 8, 9] [(21, 22)]) (.ret)) (.skip)) [8] [])) (.seq (.seq (.fin (.reg g_ref18_Timeout_3) [1, 10, 11] []) (.fin (.cond (.s 12) (.seq (.fin (.reg g_ref18_Timeout_4) [2, 12, 13] [(21, 22)]) (.ret)) (.skip)) [12] [])) (.seq (.fin (.reg g_ref18_Timeout_5) [14, 15, 16] []) (.seq (.fin (.reg g_ref18_Timeout_6) [17, 18, 19] []) (.seq (.fin (.reg g_ref18_Timeout_7) [2, 20] [(21, 22)]) (.ret))))))
def fn_ref18_Timeout : IFn2 RW := ⟨8, 2, 21, 80, [(21, 22), (44, 22)], [], [.cell 4 44 22 true, .slot 5], i_ref18_Timeout_0⟩
def g_reno_New_0 : List (IStep2 RW) := [o1 4 (.alloc 26 [.sc (.int .i64 0), .sc (.int .i64 0), .sc (.int .i64 0), .sc (.int .i64 0), .sc (.int .i64 0), .sc (.int .i64 0), .sc (.int .i64 0), .sc (.int .i64 0), .sc (.int .i64 0), .sc (.int .i64 0), .sc (.int .i64 0), .row false (.rEntry []), .sc (.int .i64 0), .sc (.int .i64 0), .sc (.int .i64 0), .sc (.int .i64 0), .sc (.int .i64 0), .sc (.int .i64 0), .sc (.int .i64 0), .sc (.int .i64 0), .sc (.int .i64 0), .sc (.int .i64 0)]),
  o1 5 (.mv false (.k (.sc (.int .i64 0))))]
def g_reno_New_1 : List (IStep2 RW) := [o1 6 (.mv false (.s 0)),
  o1 7 (.bin .lss (.s 6) (.k (.sc (.int .i64 1)))),
  o2 8 (.mv false (.s 7)),
  o3 9 8 false (.mv false (.s 0)),
  o3 10 8 false (.bin .gtr (.s 9) (.k (.sc (.int .i64 65000)))),
  o1 11 (.pick (.s 8) (.k (.sc (.bool true))) (.s 10)),
  o2 12 (.mv false (.s 11)),
  o3 13 12 false (.mv false (.s 1)),
  o3 14 12 false (.bin .lss (.s 13) (.k (.sc (.int .i64 1)))),
  o1 15 (.pick (.s 12) (.k (.sc (.bool true))) (.s 14)),
  o2 16 (.mv false (.s 15)),
  o3 17 16 false (.mv false (.s 1)),
  o3 18 16 false (.bin .gtr (.s 17) (.k (.sc (.int .i64 100)))),
  o1 19 (.pick (.s 16) (.k (.sc (.bool true))) (.s 18))]
def g_reno_New_2 : List (IStep2 RW) := [o1 20 (.build [.sc (.int .i64 0), .sc (.int .i64 0), .sc (.int .i64 0), .sc (.int .i64 0), .sc (.int .i64 0), .sc (.int .i64 0), .sc (.int .i64 0), .sc (.int .i64 0), .sc (.int .i64 0), .sc (.int .i64 0), .sc (.int .i64 0), .row false (.rEntry []), .sc (.int .i64 0), .sc (.int .i64 0), .sc (.int .i64 0), .sc (.int .i64 0), .sc (.int .i64 0), .sc (.int .i64 0), .sc (.int .i64 0), .sc (.int .i64 0), .sc (.int .i64 0), .sc (.int .i64 0)] []),
  o0 (.store 26 0 22 false 4 (.s 20)),
  o1 5 (.mv false (.k (.sc (.int .i64 2))))]
def g_reno_New_3 : List (IStep2 RW) := [o1 21 (.mv false (.s 0)),
  o1 22 (.mv false (.s 0)),
  o1 23 (.mv false (.s 1)),
  o1 24 (.bin .mul (.s 22) (.s 23)),
  o1 25 (.build [.sc (.int .i64 0), .sc (.int .i64 0), .sc (.int .i64 0), .sc (.int .i64 0), .sc (.int .i64 0), .sc (.int .i64 0), .sc (.int .i64 0), .sc (.int .i64 0), .sc (.int .i64 0), .sc (.int .i64 0), .sc (.int .i64 0), .row false (.rEntry []), .sc (.int .i64 0), .sc (.int .i64 0), .sc (.int .i64 0), .sc (.int .i64 0), .sc (.int .i64 0), .sc (.int .i64 0), .sc (.int .i64 0), .sc (.int .i64 0), .sc (.int .i64 0), .sc (.int .i64 0)] [(0, 1, .k (.sc (.int .i64 1))), (1, 1, .s 21), (2, 1, .s 24), (3, 1, .k (.sc (.int .i64 1073741824)))]),
  o0 (.store 26 0 22 false 4 (.s 25)),
  o1 5 (.mv false (.k (.sc (.int .i64 0))))]
def i_reno_New_0 : IC2 RW := .seq (.fin (.reg g_reno_New_0) [5] []) (.seq (.seq (.fin (.reg g_reno_New_1) [6, 7, 8, 9, 10, 11, 12, 13, 14, 15, 16, 17, 18] []) (.fin (.cond (.s 19) (.seq (.fin (.reg g_reno_New_2) [0, 1, 19, 20] []) (.ret)) (.skip)) [19] [])) (.seq (.fin (.reg g_reno_New_3) [0, 1, 21, 22, 23, 24, 25] []) (.ret)))
def fn_reno_New : IFn2 RW := ⟨20, 2, 26, 64, [(26, 22)], [], [.cell 4 26 22 true, .slot 5], i_reno_New_0⟩
def g_bbr_New_0 : List (IStep2 RW) := [o1 4 (.alloc 20 [.sc (.int .i64 0), .sc (.int .i64 0), .sc (.int .i64 0), .sc (.int .i64 0), .sc (.int .i64 0), .sc (.int .i64 0), .sc (.int .i64 0), .sc (.int .i64 0), .sc (.int .i64 0), .sc (.int .i64 0), .sc (.int .i64 0), .row false (.rEntry []), .sc (.int .i64 0), .sc (.int .i64 0), .sc (.int .i64 0), .sc (.int .i64 0), .sc (.int .i64 0), .sc (.int .i64 0), .sc (.int .i64 0), .sc (.int .i64 0), .sc (.int .i64 0), .sc (.int .i64 0)]),
  o1 5 (.mv false (.k (.sc (.int .i64 0))))]
def g_bbr_New_1 : List (IStep2 RW) := [o1 9 (.mv false (.s 0)),
  o1 10 (.mv false (.s 1)),
  o1 11 (.call 20 [(false, .s 9), (false, .s 10)] []),
  o1 8 (.mv false (.s 11)),
  o1 12 (.ext false 0 (.s 8)),
  o1 13 (.ext false 1 (.s 8)),
  o1 6 (.alloc 43 [.sc (.int .i64 0), .sc (.int .i64 0), .sc (.int .i64 0), .sc (.int .i64 0), .sc (.int .i64 0), .sc (.int .i64 0), .sc (.int .i64 0), .sc (.int .i64 0), .sc (.int .i64 0), .sc (.int .i64 0), .sc (.int .i64 0), .row false (.rEntry []), .sc (.int .i64 0), .sc (.int .i64 0), .sc (.int .i64 0), .sc (.int .i64 0), .sc (.int .i64 0), .sc (.int .i64 0), .sc (.int .i64 0), .sc (.int .i64 0), .sc (.int .i64 0), .sc (.int .i64 0)]),
  o0 (.store 43 0 22 false 6 (.s 12)),
  o1 7 (.mv false (.s 13))]
def g_bbr_New_2 : List (IStep2 RW) := [o1 14 (.mv false (.s 7)),
  o1 15 (.bin .eql (.s 14) (.k (.sc (.int .i64 0))))]
def g_bbr_New_3 : List (IStep2 RW) := [o1 16 (.fld 0 (.s 6)),
  o0 (.store 43 0 1 false 16 (.k (.sc (.int .i64 3)))),
  o1 17 (.fld 10 (.s 6)),
  o0 (.store 43 10 1 false 17 (.k (.sc (.int .i64 1))))]
def g_bbr_New_4 : List (IStep2 RW) := [o1 18 (.load 43 0 22 true false 6),
  o1 19 (.mv false (.s 7)),
  o0 (.store 20 0 22 false 4 (.s 18)),
  o1 5 (.mv false (.s 19))]
def i_bbr_New_0 : IC2 RW := .seq (.fin (.reg g_bbr_New_0) [5] []) (.seq (.fin (.reg g_bbr_New_1) [0, 1, 8, 9, 10, 11, 12, 13] []) (.seq (.seq (.fin (.reg g_bbr_New_2) [14] []) (.fin (.cond (.s 15) (.fin (.reg g_bbr_New_3) [15, 16, 17] []) (.skip)) [15] [])) (.seq (.fin (.reg g_bbr_New_4) [6, 7, 18, 19] [(43, 22)]) (.ret))))
def fn_bbr_New : IFn2 RW := ⟨9, 2, 20, 80, [(20, 22), (43, 22)], [], [.cell 4 20 22 true, .slot 5], i_bbr_New_0⟩
def g_ref15_New_0 : List (IStep2 RW) := [o1 4 (.alloc 26 [.sc (.int .i64 0), .sc (.int .i64 0), .sc (.int .i64 0), .sc (.int .i64 0), .sc (.int .i64 0), .sc (.int .i64 0), .sc (.int .i64 0), .sc (.int .i64 0), .sc (.int .i64 0), .sc (.int .i64 0), .sc (.int .i64 0), .row false (.rEntry []), .sc (.int .i64 0), .sc (.int .i64 0), .sc (.int .i64 0), .sc (.int .i64 0), .sc (.int .i64 0), .sc (.int .i64 0), .sc (.int .i64 0), .sc (.int .i64 0), .sc (.int .i64 0), .sc (.int .i64 0)]),
  o1 5 (.mv false (.k (.sc (.int .i64 0))))]
def g_ref15_New_1 : List (IStep2 RW) := [o1 6 (.mv false (.s 0)),
  o1 7 (.bin .lss (.s 6) (.k (.sc (.int .i64 1)))),
  o2 8 (.mv false (.s 7)),
  o3 9 8 false (.mv false (.s 0)),
  o3 10 8 false (.bin .gtr (.s 9) (.k (.sc (.int .i64 65000)))),
  o1 11 (.pick (.s 8) (.k (.sc (.bool true))) (.s 10)),
  o2 12 (.mv false (.s 11)),
  o3 13 12 false (.mv false (.s 1)),
  o3 14 12 false (.bin .lss (.s 13) (.k (.sc (.int .i64 1)))),
  o1 15 (.pick (.s 12) (.k (.sc (.bool true))) (.s 14)),
  o2 16 (.mv false (.s 15)),
  o3 17 16 false (.mv false (.s 1)),
  o3 18 16 false (.bin .gtr (.s 17) (.k (.sc (.int .i64 100)))),
  o1 19 (.pick (.s 16) (.k (.sc (.bool true))) (.s 18))]
def g_ref15_New_2 : List (IStep2 RW) := [o1 20 (.build [.sc (.int .i64 0), .sc (.int .i64 0), .sc (.int .i64 0), .sc (.int .i64 0), .sc (.int .i64 0), .sc (.int .i64 0), .sc (.int .i64 0), .sc (.int .i64 0), .sc (.int .i64 0), .sc (.int .i64 0), .sc (.int .i64 0), .row false (.rEntry []), .sc (.int .i64 0), .sc (.int .i64 0), .sc (.int .i64 0), .sc (.int .i64 0), .sc (.int .i64 0), .sc (.int .i64 0), .sc (.int .i64 0), .sc (.int .i64 0), .sc (.int .i64 0), .sc (.int .i64 0)] []),
  o0 (.store 26 0 22 false 4 (.s 20)),
  o1 5 (.mv false (.k (.sc (.int .i64 2))))]
def g_ref15_New_3 : List (IStep2 RW) := [o1 21 (.mv false (.s 0)),
  o1 22 (.mv false (.s 1)),
  o1 23 (.mv false (.s 0)),
  o1 24 (.bin .mul (.s 22) (.s 23)),
  o1 25 (.build [.sc (.int .i64 0), .sc (.int .i64 0), .sc (.int .i64 0), .sc (.int .i64 0), .sc (.int .i64 0), .sc (.int .i64 0), .sc (.int .i64 0), .sc (.int .i64 0), .sc (.int .i64 0), .sc (.int .i64 0), .sc (.int .i64 0), .row false (.rEntry []), .sc (.int .i64 0), .sc (.int .i64 0), .sc (.int .i64 0), .sc (.int .i64 0), .sc (.int .i64 0), .sc (.int .i64 0), .sc (.int .i64 0), .sc (.int .i64 0), .sc (.int .i64 0), .sc (.int .i64 0)] [(0, 1, .k (.sc (.int .i64 1))), (1, 1, .s 21), (2, 1, .s 24), (3, 1, .k (.sc (.int .i64 1073741824)))]),
  o0 (.store 26 0 22 false 4 (.s 25)),
  o1 5 (.mv false (.k (.sc (.int .i64 0))))]
def i_ref15_New_0 : IC2 RW := .seq (.fin (.reg g_ref15_New_0) [5] []) (.seq (.seq (.fin (.reg g_ref15_New_1) [6, 7, 8, 9, 10, 11, 12, 13, 14, 15, 16, 17, 18] []) (.fin (.cond (.s 19) (.seq (.fin (.reg g_ref15_New_2) [0, 1, 19, 20] []) (.ret)) (.skip)) [19] [])) (.seq (.fin (.reg g_ref15_New_3) [0, 1, 21, 22, 23, 24, 25] []) (.ret)))
def fn_ref15_New : IFn2 RW := ⟨21, 2, 26, 64, [(26, 22)], [], [.cell 4 26 22 true, .slot 5], i_ref15_New_0⟩
def g_ref18_New_0 : List (IStep2 RW) := [o1 4 (.alloc 21 [.sc (.int .i64 0), .sc (.int .i64 0), .sc (.int .i64 0), .sc (.int .i64 0), .sc (.int .i64 0), .sc (.int .i64 0), .sc (.int .i64 0), .sc (.int .i64 0), .sc (.int .i64 0), .sc (.int .i64 0), .sc (.int .i64 0), .row false (.rEntry []), .sc (.int .i64 0), .sc (.int .i64 0), .sc (.int .i64 0), .sc (.int .i64 0), .sc (.int .i64 0), .sc (.int .i64 0), .sc (.int .i64 0), .sc (.int .i64 0), .sc (.int .i64 0), .sc (.int .i64 0)]),
  o1 5 (.mv false (.k (.sc (.int .i64 0))))]
def g_ref18_New_1 : List (IStep2 RW) := [o1 9 (.mv false (.s 0)),
  o1 10 (.mv false (.s 1)),
  o1 11 (.call 21 [(false, .s 9), (false, .s 10)] []),
  o1 8 (.mv false (.s 11)),
  o1 12 (.ext false 0 (.s 8)),
  o1 13 (.ext false 1 (.s 8)),
  o1 6 (.alloc 44 [.sc (.int .i64 0), .sc (.int .i64 0), .sc (.int .i64 0), .sc (.int .i64 0), .sc (.int .i64 0), .sc (.int .i64 0), .sc (.int .i64 0), .sc (.int .i64 0), .sc (.int .i64 0), .sc (.int .i64 0), .sc (.int .i64 0), .row false (.rEntry []), .sc (.int .i64 0), .sc (.int .i64 0), .sc (.int .i64 0), .sc (.int .i64 0), .sc (.int .i64 0), .sc (.int .i64 0), .sc (.int .i64 0), .sc (.int .i64 0), .sc (.int .i64 0), .sc (.int .i64 0)]),
  o0 (.store 44 0 22 false 6 (.s 12)),
  o1 7 (.mv false (.s 13))]
def g_ref18_New_2 : List (IStep2 RW) := [o1 14 (.mv false (.s 7)),
  o1 15 (.bin .neq (.s 14) (.k (.sc (.int .i64 0))))]
def g_ref18_New_3 : List (IStep2 RW) := [o1 16 (.build [.sc (.int .i64 0), .sc (.int .i64 0), .sc (.int .i64 0), .sc (.int .i64 0), .sc (.int .i64 0), .sc (.int .i64 0), .sc (.int .i64 0), .sc (.int .i64 0), .sc (.int .i64 0), .sc (.int .i64 0), .sc (.int .i64 0), .row false (.rEntry []), .sc (.int .i64 0), .sc (.int .i64 0), .sc (.int .i64 0), .sc (.int .i64 0), .sc (.int .i64 0), .sc (.int .i64 0), .sc (.int .i64 0), .sc (.int .i64 0), .sc (.int .i64 0), .sc (.int .i64 0)] []),
  o1 17 (.mv false (.s 7)),
  o0 (.store 21 0 22 false 4 (.s 16)),
  o1 5 (.mv false (.s 17))]
def g_ref18_New_4 : List (IStep2 RW) := [o1 18 (.fld 0 (.s 6)),
  o0 (.store 44 0 1 false 18 (.k (.sc (.int .i64 3))))]
def g_ref18_New_5 : List (IStep2 RW) := [o1 19 (.fld 10 (.s 6)),
  o0 (.store 44 10 1 false 19 (.k (.sc (.int .i64 1))))]
def g_ref18_New_6 : List (IStep2 RW) := [o1 20 (.load 44 0 22 true false 6),
  o0 (.store 21 0 22 false 4 (.s 20)),
  o1 5 (.mv false (.k (.sc (.int .i64 0))))]
def i_ref18_New_0 : IC2 RW := .seq (.fin (.reg g_ref18_New_0) [5] []) (.seq (.fin (.reg g_ref18_New_1) [0, 1, 8, 9, 10, 11, 12, 13] []) (.seq (.seq (.fin (.reg g_ref18_New_2) [14] []) (.fin (.cond (.s 15) (.seq (.fin (.reg g_ref18_New_3) [6, 7, 15, 16, 17] [(44, 22)]) (.ret)) (.skip)) [7, 15] [])) (.seq (.fin (.reg g_ref18_New_4) [18] []) (.seq (.fin (.reg g_ref18_New_5) [19] []) (.seq (.fin (.reg g_ref18_New_6) [6, 20] [(44, 22)]) (.ret))))))
def fn_ref18_New : IFn2 RW := ⟨10, 2, 21, 80, [(21, 22), (44, 22)], [], [.cell 4 21 22 true, .slot 5], i_ref18_New_0⟩
def g_ref15_Same_6 : List (IStep2 RW) := [o1 158 (.mv false (.s 5)),
  o1 159 (.fld 11 (.s 2)),
  o1 160 (.load 176 11 1 false false 159),
  o1 161 (.len false (.s 160)),
  o1 162 (.bin .lss (.s 158) (.s 161))]
def g_ref15_Same_8 : List (IStep2 RW) := [o1 165 (.fld 11 (.s 2)),
  o1 166 (.load 176 11 1 false false 165),
  o1 167 (.mv false (.s 5)),
  o1 168 (.idx 2 (.s 166) (.s 167)),
  o1 169 (.loade 2 true 168),
  o1 170 (.fld 11 (.s 3)),
  o1 171 (.load 199 11 1 false false 170),
  o1 172 (.mv false (.s 5)),
  o1 173 (.idx 2 (.s 171) (.s 172)),
  o1 174 (.loade 2 true 173),
  o1 175 (.eqs [true, true] true (.s 169) (.s 174))]
def g_ref15_Same_9 : List (IStep2 RW) := [o1 4 (.mv false (.k (.sc (.bool false))))]
def g_ref15_Same_7 : List (IStep2 RW) := [o1 163 (.mv false (.s 5)),
  o1 164 (.bin .add (.s 163) (.k (.sc (.int .i64 1)))),
  o1 5 (.mv false (.s 164))]
def i_ref15_Same_0 : IC2 RW := .seq (.seq (.fin (.reg g_ref15_Same_6) [158, 159, 160, 161] []) (.fin (.cond (.s 162) (.skip) (.clr [2, 3, 5, 162] [(176, 22), (199, 22)] (.exit 0))) [162] [])) (.seq (.blk 1 (.seq (.fin (.reg g_ref15_Same_8) [165, 166, 167, 168, 169, 170, 171, 172, 173, 174] []) (.fin (.cond (.s 175) (.seq (.fin (.reg g_ref15_Same_9) [2, 3, 5, 175] [(176, 22), (199, 22)]) (.ret)) (.skip)) [175] []))) (.fin (.reg g_ref15_Same_7) [163, 164] []))
def i_ref15_Same_1 : IC2 RW := .loop i_ref15_Same_0
def i_ref15_Same_2 : IC2 RW := .blk 0 i_ref15_Same_1
def g_ref15_Same_5 : List (IStep2 RW) := [o1 5 (.mv false (.k (.sc (.int .i64 0))))]
def i_ref15_Same_3 : IC2 RW := .seq (.reg g_ref15_Same_5) i_ref15_Same_2
def g_ref15_Same_10 : List (IStep2 RW) := [o1 4 (.mv false (.k (.sc (.bool true))))]
def i_ref15_Same_4 : IC2 RW := .seq (.reg g_ref15_Same_10) (.ret)
def i_ref15_Same_5 : IC2 RW := .seq i_ref15_Same_3 i_ref15_Same_4
def g_ref15_Same_3 : List (IStep2 RW) := [o1 74 (.fld 10 (.s 2)),
  o1 75 (.load 176 10 1 false false 74),
  o1 76 (.fld 10 (.s 3)),
  o1 77 (.load 199 10 1 false false 76),
  o1 78 (.bin .neq (.s 75) (.s 77)),
  o2 79 (.mv false (.s 78)),
  o3 80 79 false (.fld 12 (.s 2)),
  o3 81 79 false (.load 176 12 1 false false 80),
  o3 82 79 false (.fld 12 (.s 3)),
  o3 83 79 false (.load 199 12 1 false false 82),
  o3 84 79 false (.bin .neq (.s 81) (.s 83)),
  o1 85 (.pick (.s 79) (.k (.sc (.bool true))) (.s 84)),
  o2 86 (.mv false (.s 85)),
  o3 87 86 false (.fld 13 (.s 2)),
  o3 88 86 false (.load 176 13 1 false false 87),
  o3 89 86 false (.fld 13 (.s 3)),
  o3 90 86 false (.load 199 13 1 false false 89),
  o3 91 86 false (.bin .neq (.s 88) (.s 90)),
  o1 92 (.pick (.s 86) (.k (.sc (.bool true))) (.s 91)),
  o2 93 (.mv false (.s 92)),
  o3 94 93 false (.fld 14 (.s 2)),
  o3 95 93 false (.load 176 14 1 false false 94),
  o3 96 93 false (.fld 14 (.s 3)),
  o3 97 93 false (.load 199 14 1 false false 96),
  o3 98 93 false (.bin .neq (.s 95) (.s 97)),
  o1 99 (.pick (.s 93) (.k (.sc (.bool true))) (.s 98)),
  o2 100 (.mv false (.s 99)),
  o3 101 100 false (.fld 15 (.s 2)),
  o3 102 100 false (.load 176 15 1 false false 101),
  o3 103 100 false (.fld 15 (.s 3)),
  o3 104 100 false (.load 199 15 1 false false 103),
  o3 105 100 false (.bin .neq (.s 102) (.s 104)),
  o1 106 (.pick (.s 100) (.k (.sc (.bool true))) (.s 105)),
  o2 107 (.mv false (.s 106)),
  o3 108 107 false (.fld 16 (.s 2)),
  o3 109 107 false (.load 176 16 1 false false 108),
  o3 110 107 false (.fld 16 (.s 3)),
  o3 111 107 false (.load 199 16 1 false false 110),
  o3 112 107 false (.bin .neq (.s 109) (.s 111)),
  o1 113 (.pick (.s 107) (.k (.sc (.bool true))) (.s 112)),
  o2 114 (.mv false (.s 113)),
  o3 115 114 false (.fld 17 (.s 2)),
  o3 116 114 false (.load 176 17 1 false false 115),
  o3 117 114 false (.fld 17 (.s 3)),
  o3 118 114 false (.load 199 17 1 false false 117),
  o3 119 114 false (.bin .neq (.s 116) (.s 118)),
  o1 120 (.pick (.s 114) (.k (.sc (.bool true))) (.s 119)),
  o2 121 (.mv false (.s 120)),
  o3 122 121 false (.fld 18 (.s 2)),
  o3 123 121 false (.load 176 18 1 false false 122),
  o3 124 121 false (.fld 18 (.s 3)),
  o3 125 121 false (.load 199 18 1 false false 124),
  o3 126 121 false (.bin .neq (.s 123) (.s 125)),
  o1 127 (.pick (.s 121) (.k (.sc (.bool true))) (.s 126)),
  o2 128 (.mv false (.s 127)),
  o3 129 128 false (.fld 19 (.s 2)),
  o3 130 128 false (.load 176 19 1 false false 129),
  o3 131 128 false (.fld 19 (.s 3)),
  o3 132 128 false (.load 199 19 1 false false 131),
  o3 133 128 false (.bin .neq (.s 130) (.s 132)),
  o1 134 (.pick (.s 128) (.k (.sc (.bool true))) (.s 133)),
  o2 135 (.mv false (.s 134)),
  o3 136 135 false (.fld 20 (.s 2)),
  o3 137 135 false (.load 176 20 1 false false 136),
  o3 138 135 false (.fld 20 (.s 3)),
  o3 139 135 false (.load 199 20 1 false false 138),
  o3 140 135 false (.bin .neq (.s 137) (.s 139)),
  o1 141 (.pick (.s 135) (.k (.sc (.bool true))) (.s 140)),
  o2 142 (.mv false (.s 141)),
  o3 143 142 false (.fld 21 (.s 2)),
  o3 144 142 false (.load 176 21 1 false false 143),
  o3 145 142 false (.fld 21 (.s 3)),
  o3 146 142 false (.load 199 21 1 false false 145),
  o3 147 142 false (.bin .neq (.s 144) (.s 146)),
  o1 148 (.pick (.s 142) (.k (.sc (.bool true))) (.s 147)),
  o2 149 (.mv false (.s 148)),
  o3 150 149 false (.fld 11 (.s 2)),
  o3 151 149 false (.load 176 11 1 false false 150),
  o3 152 149 false (.len false (.s 151)),
  o3 153 149 false (.fld 11 (.s 3)),
  o3 154 149 false (.load 199 11 1 false false 153),
  o3 155 149 false (.len false (.s 154)),
  o3 156 149 false (.bin .neq (.s 152) (.s 155)),
  o1 157 (.pick (.s 149) (.k (.sc (.bool true))) (.s 156))]
def g_ref15_Same_4 : List (IStep2 RW) := [o1 4 (.mv false (.k (.sc (.bool false))))]
def i_ref15_Same_6 : IC2 RW := .seq (.seq (.fin (.reg g_ref15_Same_3) [74, 75, 76, 77, 78, 79, 80, 81, 82, 83, 84, 85, 86, 87, 88, 89, 90, 91, 92, 93, 94, 95, 96, 97, 98, 99, 100, 101, 102, 103, 104, 105, 106, 107, 108, 109, 110, 111, 112, 113, 114, 115, 116, 117, 118, 119, 120, 121, 122, 123, 124, 125, 126, 127, 128, 129, 130, 131, 132, 133, 134, 135, 136, 137, 138, 139, 140, 141, 142, 143, 144, 145, 146, 147, 148, 149, 150, 151, 152, 153, 154, 155, 156] []) (.fin (.cond (.s 157) (.seq (.fin (.reg g_ref15_Same_4) [2, 3, 157] [(176, 22), (199, 22)]) (.ret)) (.skip)) [157] [])) i_ref15_Same_5
def g_ref15_Same_0 : List (IStep2 RW) := [o1 2 (.box 176 22 false (.s 0)),
  o1 3 (.box 199 22 false (.s 1)),
  o1 4 (.mv false (.k (.sc (.bool false))))]
def g_ref15_Same_1 : List (IStep2 RW) := [o1 6 (.fld 0 (.s 2)),
  o1 7 (.load 176 0 1 false false 6),
  o1 8 (.fld 0 (.s 3)),
  o1 9 (.load 199 0 1 false false 8),
  o1 10 (.bin .neq (.s 7) (.s 9)),
  o2 11 (.mv false (.s 10)),
  o3 12 11 false (.fld 1 (.s 2)),
  o3 13 11 false (.load 176 1 1 false false 12),
  o3 14 11 false (.fld 1 (.s 3)),
  o3 15 11 false (.load 199 1 1 false false 14),
  o3 16 11 false (.bin .neq (.s 13) (.s 15)),
  o1 17 (.pick (.s 11) (.k (.sc (.bool true))) (.s 16)),
  o2 18 (.mv false (.s 17)),
  o3 19 18 false (.fld 2 (.s 2)),
  o3 20 18 false (.load 176 2 1 false false 19),
  o3 21 18 false (.fld 2 (.s 3)),
  o3 22 18 false (.load 199 2 1 false false 21),
  o3 23 18 false (.bin .neq (.s 20) (.s 22)),
  o1 24 (.pick (.s 18) (.k (.sc (.bool true))) (.s 23)),
  o2 25 (.mv false (.s 24)),
  o3 26 25 false (.fld 3 (.s 2)),
  o3 27 25 false (.load 176 3 1 false false 26),
  o3 28 25 false (.fld 3 (.s 3)),
  o3 29 25 false (.load 199 3 1 false false 28),
  o3 30 25 false (.bin .neq (.s 27) (.s 29)),
  o1 31 (.pick (.s 25) (.k (.sc (.bool true))) (.s 30)),
  o2 32 (.mv false (.s 31)),
  o3 33 32 false (.fld 4 (.s 2)),
  o3 34 32 false (.load 176 4 1 false false 33),
  o3 35 32 false (.fld 4 (.s 3)),
  o3 36 32 false (.load 199 4 1 false false 35),
  o3 37 32 false (.bin .neq (.s 34) (.s 36)),
  o1 38 (.pick (.s 32) (.k (.sc (.bool true))) (.s 37)),
  o2 39 (.mv false (.s 38)),
  o3 40 39 false (.fld 5 (.s 2)),
  o3 41 39 false (.load 176 5 1 false false 40),
  o3 42 39 false (.fld 5 (.s 3)),
  o3 43 39 false (.load 199 5 1 false false 42),
  o3 44 39 false (.bin .neq (.s 41) (.s 43)),
  o1 45 (.pick (.s 39) (.k (.sc (.bool true))) (.s 44)),
  o2 46 (.mv false (.s 45)),
  o3 47 46 false (.fld 6 (.s 2)),
  o3 48 46 false (.load 176 6 1 false false 47),
  o3 49 46 false (.fld 6 (.s 3)),
  o3 50 46 false (.load 199 6 1 false false 49),
  o3 51 46 false (.bin .neq (.s 48) (.s 50)),
  o1 52 (.pick (.s 46) (.k (.sc (.bool true))) (.s 51)),
  o2 53 (.mv false (.s 52)),
  o3 54 53 false (.fld 7 (.s 2)),
  o3 55 53 false (.load 176 7 1 false false 54),
  o3 56 53 false (.fld 7 (.s 3)),
  o3 57 53 false (.load 199 7 1 false false 56),
  o3 58 53 false (.bin .neq (.s 55) (.s 57)),
  o1 59 (.pick (.s 53) (.k (.sc (.bool true))) (.s 58)),
  o2 60 (.mv false (.s 59)),
  o3 61 60 false (.fld 8 (.s 2)),
  o3 62 60 false (.load 176 8 1 false false 61),
  o3 63 60 false (.fld 8 (.s 3)),
  o3 64 60 false (.load 199 8 1 false false 63),
  o3 65 60 false (.bin .neq (.s 62) (.s 64)),
  o1 66 (.pick (.s 60) (.k (.sc (.bool true))) (.s 65)),
  o2 67 (.mv false (.s 66)),
  o3 68 67 false (.fld 9 (.s 2)),
  o3 69 67 false (.load 176 9 1 false false 68),
  o3 70 67 false (.fld 9 (.s 3)),
  o3 71 67 false (.load 199 9 1 false false 70),
  o3 72 67 false (.bin .neq (.s 69) (.s 71)),
  o1 73 (.pick (.s 67) (.k (.sc (.bool true))) (.s 72))]
def g_ref15_Same_2 : List (IStep2 RW) := [o1 4 (.mv false (.k (.sc (.bool false))))]
def i_ref15_Same_7 : IC2 RW := .seq (.fin (.reg g_ref15_Same_0) [0, 1, 4] []) (.seq (.seq (.fin (.reg g_ref15_Same_1) [6, 7, 8, 9, 10, 11, 12, 13, 14, 15, 16, 17, 18, 19, 20, 21, 22, 23, 24, 25, 26, 27, 28, 29, 30, 31, 32, 33, 34, 35, 36, 37, 38, 39, 40, 41, 42, 43, 44, 45, 46, 47, 48, 49, 50, 51, 52, 53, 54, 55, 56, 57, 58, 59, 60, 61, 62, 63, 64, 65, 66, 67, 68, 69, 70, 71, 72] []) (.fin (.cond (.s 73) (.seq (.fin (.reg g_ref15_Same_2) [2, 3, 73] [(176, 22), (199, 22)]) (.ret)) (.skip)) [73] [])) i_ref15_Same_6)
def fn_ref15_Same : IFn2 RW := ⟨11, 2, 176, 224, [(176, 22), (199, 22)], [], [.slot 4], i_ref15_Same_7⟩
def g_bbr_ctl_round_0 : List (IStep2 RW) := [o1 3 (.box 53 8 false (.s 1)),
  o1 4 (.mv false (.k (.sc (.bool false))))]
def g_bbr_ctl_round_1 : List (IStep2 RW) := [o1 5 (.fld 6 (.s 3)),
  o1 6 (.load 53 6 1 false false 5),
  o1 7 (.mv false (.s 0)),
  o1 8 (.nil (.s 7)),
  o1 9 (.fld 0 (.s 8)),
  o1 10 (.fld 15 (.s 9)),
  o1 11 (.load 30 15 1 false false 10),
  o1 12 (.bin .lss (.s 6) (.s 11))]
def g_bbr_ctl_round_2 : List (IStep2 RW) := [o1 4 (.mv false (.k (.sc (.bool false))))]
def g_bbr_ctl_round_3 : List (IStep2 RW) := [o1 13 (.mv false (.s 0)),
  o1 14 (.mv false (.s 0)),
  o1 15 (.fld 5 (.s 3)),
  o1 16 (.load 53 5 1 false false 15),
  o1 17 (.mv false (.s 0)),
  o1 18 (.nil (.s 17)),
  o1 19 (.fld 0 (.s 18)),
  o1 20 (.fld 14 (.s 19)),
  o1 21 (.load 30 14 1 false false 20),
  o1 22 (.bin .add (.s 21) (.k (.sc (.int .i64 1)))),
  o1 23 (.mnmx false [.k (.sc (.int .i64 1125899906842624)), .s 22]),
  o1 24 (.nil (.s 13)),
  o1 25 (.fld 0 (.s 24)),
  o1 26 (.fld 15 (.s 25)),
  o0 (.store 30 15 1 false 26 (.s 16)),
  o1 27 (.nil (.s 14)),
  o1 28 (.fld 0 (.s 27)),
  o1 29 (.fld 14 (.s 28)),
  o0 (.store 30 14 1 false 29 (.s 23))]
def g_bbr_ctl_round_4 : List (IStep2 RW) := [o1 4 (.mv false (.k (.sc (.bool true))))]
def i_bbr_ctl_round_0 : IC2 RW := .seq (.fin (.reg g_bbr_ctl_round_0) [1, 4] []) (.seq (.seq (.fin (.reg g_bbr_ctl_round_1) [5, 6, 7, 8, 9, 10, 11] []) (.fin (.cond (.s 12) (.seq (.fin (.reg g_bbr_ctl_round_2) [0, 3, 12] [(53, 8)]) (.ret)) (.skip)) [12] [])) (.seq (.fin (.reg g_bbr_ctl_round_3) [0, 3, 13, 14, 15, 16, 17, 18, 19, 20, 21, 22, 23, 24, 25, 26, 27, 28, 29] [(53, 8)]) (.seq (.reg g_bbr_ctl_round_4) (.ret))))
def fn_bbr_ctl_round : IFn2 RW := ⟨24, 2, 30, 64, [(30, 22), (53, 8)], [(30, 22)], [.slot 4], i_bbr_ctl_round_0⟩
def g_filter_Best_0 : List (IStep2 RW) := [o1 2 (.mv false (.k (.sc (.int .i64 0)))),
  o1 3 (.mv false (.k (.sc (.bool false))))]
def g_filter_Best_1 : List (IStep2 RW) := [o1 4 (.mv false (.s 0)),
  o1 5 (.len false (.s 4)),
  o1 6 (.bin .eql (.s 5) (.k (.sc (.int .i64 0))))]
def g_filter_Best_2 : List (IStep2 RW) := [o1 2 (.mv false (.k (.sc (.int .i64 0)))),
  o1 3 (.mv false (.k (.sc (.bool false))))]
def g_filter_Best_3 : List (IStep2 RW) := [o1 7 (.mv false (.s 0)),
  o1 8 (.idx 2 (.s 7) (.k (.sc (.int .i64 0)))),
  o1 9 (.fld 1 (.s 8)),
  o1 10 (.loade 1 false 9),
  o1 2 (.mv false (.s 10)),
  o1 3 (.mv false (.k (.sc (.bool true))))]
def i_filter_Best_0 : IC2 RW := .seq (.fin (.reg g_filter_Best_0) [2, 3] []) (.seq (.seq (.fin (.reg g_filter_Best_1) [4, 5] []) (.fin (.cond (.s 6) (.seq (.fin (.reg g_filter_Best_2) [0, 6] []) (.ret)) (.skip)) [6] [])) (.seq (.fin (.reg g_filter_Best_3) [0, 7, 8, 9, 10] []) (.ret)))
def fn_filter_Best : IFn2 RW := ⟨40, 1, 11, 16, [], [], [.slot 2, .slot 3], i_filter_Best_0⟩
def g_bbr_ctl_bandwidth_0 : List (IStep2 RW) := [o1 2 (.mv false (.k (.sc (.int .i64 0))))]
def g_bbr_ctl_bandwidth_1 : List (IStep2 RW) := [o1 6 (.mv false (.s 0)),
  o1 7 (.nil (.s 6)),
  o1 8 (.fld 0 (.s 7)),
  o1 9 (.fld 11 (.s 8)),
  o1 10 (.load 15 11 1 false false 9),
  o1 11 (.call 40 [(false, .s 10)] []),
  o1 5 (.mv false (.s 11)),
  o1 12 (.ext false 0 (.s 5)),
  o1 13 (.ext false 1 (.s 5)),
  o1 3 (.mv false (.s 12)),
  o1 4 (.mv false (.s 13))]
def g_bbr_ctl_bandwidth_2 : List (IStep2 RW) := [o1 14 (.mv false (.s 3)),
  o1 2 (.mv false (.s 14))]
def i_bbr_ctl_bandwidth_0 : IC2 RW := .seq (.fin (.reg g_bbr_ctl_bandwidth_0) [2] []) (.seq (.fin (.reg g_bbr_ctl_bandwidth_1) [0, 4, 5, 6, 7, 8, 9, 10, 11, 12, 13] []) (.seq (.fin (.reg g_bbr_ctl_bandwidth_2) [3, 14] []) (.ret)))
def fn_bbr_ctl_bandwidth : IFn2 RW := ⟨31, 1, 15, 48, [(15, 22)], [(15, 22)], [.slot 2], i_bbr_ctl_bandwidth_0⟩
def g_filter_Put_5 : List (IStep2 RW) := [o1 51 (.mv false (.s 13)),
  o1 52 (.mv false (.s 14)),
  o1 53 (.bin .lss (.s 51) (.s 52)),
  o2 54 (.mv false (.s 53)),
  o3 55 54 true (.mv false (.s 0)),
  o3 56 54 true (.mv false (.s 13)),
  o3 57 54 true (.idx 2 (.s 55) (.s 56)),
  o3 58 54 true (.fld 0 (.s 57)),
  o3 59 54 true (.loade 1 false 58),
  o3 60 54 true (.mv false (.s 3)),
  o3 61 54 true (.bin .add (.s 59) (.s 60)),
  o3 62 54 true (.mv false (.s 1)),
  o3 63 54 true (.bin .lss (.s 61) (.s 62)),
  o1 64 (.pick (.s 54) (.s 63) (.k (.sc (.bool false))))]
def g_filter_Put_6 : List (IStep2 RW) := [o1 65 (.mv false (.s 13)),
  o1 66 (.bin .add (.s 65) (.k (.sc (.int .i64 1)))),
  o1 13 (.mv false (.s 66))]
def i_filter_Put_0 : IC2 RW := .seq (.seq (.fin (.reg g_filter_Put_5) [51, 52, 53, 54, 55, 56, 57, 58, 59, 60, 61, 62, 63] []) (.fin (.cond (.s 64) (.skip) (.clr [1, 3, 64] [] (.exit 0))) [64] [])) (.blk 1 (.fin (.reg g_filter_Put_6) [65, 66] []))
def i_filter_Put_1 : IC2 RW := .loop i_filter_Put_0
def i_filter_Put_2 : IC2 RW := .blk 0 i_filter_Put_1
def g_filter_Put_7 : List (IStep2 RW) := [o1 67 (.mv false (.s 13)),
  o1 68 (.mv false (.s 14)),
  o1 69 (.bin .lss (.s 67) (.s 68)),
  o2 70 (.mv false (.s 69)),
  o3 71 70 true (.mv false (.s 2)),
  o3 72 70 true (.mv false (.s 0)),
  o3 73 70 true (.mv false (.s 14)),
  o3 74 70 true (.bin .sub (.s 73) (.k (.sc (.int .i64 1)))),
  o3 75 70 true (.idx 2 (.s 72) (.s 74)),
  o3 76 70 true (.fld 1 (.s 75)),
  o3 77 70 true (.loade 1 false 76),
  o3 78 70 true (.mv false (.s 4)),
  o3 79 70 true (.call 45 [(false, .s 71), (false, .s 77), (false, .s 78)] []),
  o1 80 (.pick (.s 70) (.s 79) (.k (.sc (.bool false))))]
def g_filter_Put_8 : List (IStep2 RW) := [o1 81 (.mv false (.s 14)),
  o1 82 (.bin .sub (.s 81) (.k (.sc (.int .i64 1)))),
  o1 14 (.mv false (.s 82))]
def i_filter_Put_3 : IC2 RW := .seq (.seq (.fin (.reg g_filter_Put_7) [67, 68, 69, 70, 71, 72, 73, 74, 75, 76, 77, 78, 79] []) (.fin (.cond (.s 80) (.skip) (.clr [2, 4, 80] [] (.exit 2))) [80] [])) (.blk 3 (.fin (.reg g_filter_Put_8) [81, 82] []))
def i_filter_Put_4 : IC2 RW := .loop i_filter_Put_3
def i_filter_Put_5 : IC2 RW := .blk 2 i_filter_Put_4
def g_filter_Put_9 : List (IStep2 RW) := [o1 83 (.mv false (.s 0)),
  o1 84 (.mv false (.s 13)),
  o1 85 (.mv false (.s 14)),
  o1 86 (.mv false (.s 14)),
  o1 87 (.slice 2 (.s 83) (some (.s 84)) (some (.s 85)) (some (.s 86))),
  o1 88 (.load 91 0 2 true false 12),
  o1 89 (.bslice 49 1 [(0, 2, .s 88)]),
  o1 90 (.app 2 16 true (.s 87) (.s 89)),
  o1 10 (.mv false (.s 90)),
  o1 11 (.mv false (.k (.sc (.int .i64 0))))]
def i_filter_Put_6 : IC2 RW := .seq (.fin (.reg g_filter_Put_9) [0, 12, 13, 14, 83, 84, 85, 86, 87, 88, 89, 90] [(91, 2)]) (.ret)
def i_filter_Put_7 : IC2 RW := .seq i_filter_Put_5 i_filter_Put_6
def i_filter_Put_8 : IC2 RW := .seq i_filter_Put_2 i_filter_Put_7
def g_filter_Put_0 : List (IStep2 RW) := [o1 10 (.mv false (.k (.row false (.rEntry [])))),
  o1 11 (.mv false (.k (.sc (.int .i64 0))))]
def g_filter_Put_1 : List (IStep2 RW) := [o1 15 (.mv false (.s 1)),
  o1 16 (.mv false (.s 2)),
  o1 17 (.build [.sc (.int .i64 0), .sc (.int .i64 0)] [(0, 1, .s 15), (1, 1, .s 16)]),
  o1 12 (.alloc 91 [.sc (.int .i64 0), .sc (.int .i64 0)]),
  o0 (.store 91 0 2 false 12 (.s 17))]
def g_filter_Put_2 : List (IStep2 RW) := [o1 18 (.mv false (.s 0)),
  o1 19 (.mv false (.s 4)),
  o1 20 (.call 36 [(false, .s 18), (false, .s 19)] []),
  o1 21 (.bin .neq (.s 20) (.k (.sc (.int .i64 0)))),
  o2 22 (.mv false (.s 21)),
  o3 23 22 false (.load 91 0 2 true false 12),
  o3 24 22 false (.call 44 [(false, .s 23)] []),
  o3 25 22 false (.un .not (.s 24)),
  o1 26 (.pick (.s 22) (.k (.sc (.bool true))) (.s 25)),
  o2 27 (.mv false (.s 26)),
  o3 28 27 false (.mv false (.s 3)),
  o3 29 27 false (.build [.sc (.int .i64 0), .sc (.int .i64 0)] [(0, 1, .s 28)]),
  o3 30 27 false (.call 44 [(false, .s 29)] []),
  o3 31 27 false (.un .not (.s 30)),
  o1 32 (.pick (.s 27) (.k (.sc (.bool true))) (.s 31)),
  o2 33 (.mv false (.s 32)),
  o3 34 33 false (.mv false (.s 0)),
  o3 35 33 false (.len false (.s 34)),
  o3 36 33 false (.bin .gtr (.s 35) (.k (.sc (.int .i64 0)))),
  ⟨some 37, .mv false (.s 36), (some (33, false)), true⟩,
  o3 38 37 true (.mv false (.s 0)),
  o3 39 37 true (.mv false (.s 0)),
  o3 40 37 true (.len false (.s 39)),
  o3 41 37 true (.bin .sub (.s 40) (.k (.sc (.int .i64 1)))),
  o3 42 37 true (.idx 2 (.s 38) (.s 41)),
  o3 43 37 true (.fld 0 (.s 42)),
  o3 44 37 true (.loade 1 false 43),
  o3 45 37 true (.mv false (.s 1)),
  o3 46 37 true (.bin .geq (.s 44) (.s 45)),
  o3 47 33 false (.pick (.s 37) (.s 46) (.k (.sc (.bool false)))),
  o1 48 (.pick (.s 33) (.k (.sc (.bool true))) (.s 47))]
def g_filter_Put_3 : List (IStep2 RW) := [o1 10 (.mv false (.k (.row false (.rEntry [])))),
  o1 11 (.mv false (.k (.sc (.int .i64 2))))]
def g_filter_Put_4 : List (IStep2 RW) := [o1 49 (.mv false (.s 0)),
  o1 50 (.len false (.s 49)),
  o1 13 (.mv false (.k (.sc (.int .i64 0)))),
  o1 14 (.mv false (.s 50))]
def i_filter_Put_9 : IC2 RW := .seq (.fin (.reg g_filter_Put_0) [10, 11] []) (.seq (.fin (.reg g_filter_Put_1) [15, 16, 17] []) (.seq (.seq (.fin (.reg g_filter_Put_2) [18, 19, 20, 21, 22, 23, 24, 25, 26, 27, 28, 29, 30, 31, 32, 33, 34, 35, 36, 37, 38, 39, 40, 41, 42, 43, 44, 45, 46, 47] []) (.fin (.cond (.s 48) (.seq (.fin (.reg g_filter_Put_3) [0, 1, 2, 3, 4, 12, 48] [(91, 2)]) (.ret)) (.skip)) [48] [])) (.seq (.fin (.reg g_filter_Put_4) [49, 50] []) i_filter_Put_8)))
def fn_filter_Put : IFn2 RW := ⟨37, 5, 91, 96, [(91, 2)], [], [.slot 10, .slot 11], i_filter_Put_9⟩
def g_bbr_ctl_speed_4 : List (IStep2 RW) := [o1 27 (.mv false (.s 5)),
  o1 28 (.len false (.s 27)),
  o1 6 (.mv false (.s 28))]
def g_bbr_ctl_speed_5 : List (IStep2 RW) := [o1 29 (.mv false (.s 6)),
  o1 30 (.bin .gtr (.s 29) (.k (.sc (.int .i64 0)))),
  o2 31 (.mv false (.s 30)),
  o3 32 31 true (.mv false (.s 5)),
  o3 33 31 true (.mv false (.s 6)),
  o3 34 31 true (.bin .sub (.s 33) (.k (.sc (.int .i64 1)))),
  o3 35 31 true (.idx 2 (.s 32) (.s 34)),
  o3 36 31 true (.fld 0 (.s 35)),
  o3 37 31 true (.loade 1 false 36),
  o3 38 31 true (.mv false (.s 0)),
  o3 39 31 true (.nil (.s 38)),
  o3 40 31 true (.fld 0 (.s 39)),
  o3 41 31 true (.fld 14 (.s 40)),
  o3 42 31 true (.load 74 14 1 false false 41),
  o3 43 31 true (.bin .eql (.s 37) (.s 42)),
  o1 44 (.pick (.s 31) (.s 43) (.k (.sc (.bool false))))]
def g_bbr_ctl_speed_6 : List (IStep2 RW) := [o1 45 (.mv false (.s 4)),
  o1 46 (.mv false (.s 5)),
  o1 47 (.mv false (.s 6)),
  o1 48 (.bin .sub (.s 47) (.k (.sc (.int .i64 1)))),
  o1 49 (.idx 2 (.s 46) (.s 48)),
  o1 50 (.fld 1 (.s 49)),
  o1 51 (.loade 1 false 50),
  o1 52 (.mnmx true [.s 45, .s 51]),
  o1 4 (.mv false (.s 52))]
def g_bbr_ctl_speed_7 : List (IStep2 RW) := [o1 53 (.mv false (.s 5)),
  o1 54 (.mv false (.s 6)),
  o1 55 (.bin .sub (.s 54) (.k (.sc (.int .i64 1)))),
  o1 56 (.mv false (.s 6)),
  o1 57 (.bin .sub (.s 56) (.k (.sc (.int .i64 1)))),
  o1 58 (.slice 2 (.s 53) none (some (.s 55)) (some (.s 57))),
  o1 5 (.mv false (.s 58))]
def g_bbr_ctl_speed_8 : List (IStep2 RW) := [o1 60 (.mv false (.s 0)),
  o1 61 (.mv false (.s 5)),
  o1 62 (.mv false (.s 0)),
  o1 63 (.nil (.s 62)),
  o1 64 (.fld 0 (.s 63)),
  o1 65 (.fld 14 (.s 64)),
  o1 66 (.load 74 14 1 false false 65),
  o1 67 (.mv false (.s 4)),
  o1 68 (.call 37 [(false, .s 61), (false, .s 66), (false, .s 67), (false, .k (.sc (.int .i64 10))), (false, .k (.sc (.bool true)))] []),
  o1 59 (.mv false (.s 68)),
  o1 69 (.ext false 0 (.s 59)),
  o1 70 (.ext false 1 (.s 59)),
  o1 71 (.nil (.s 60)),
  o1 72 (.fld 0 (.s 71)),
  o1 73 (.fld 11 (.s 72)),
  o0 (.store 74 11 1 false 73 (.s 69))]
def i_bbr_ctl_speed_0 : IC2 RW := .seq (.seq (.fin (.reg g_bbr_ctl_speed_4) [27, 28] []) (.seq (.fin (.reg g_bbr_ctl_speed_5) [29, 30, 31, 32, 33, 34, 35, 36, 37, 38, 39, 40, 41, 42, 43] []) (.fin (.cond (.s 44) (.seq (.fin (.reg g_bbr_ctl_speed_6) [44, 45, 46, 47, 48, 49, 50, 51, 52] []) (.fin (.reg g_bbr_ctl_speed_7) [6, 53, 54, 55, 56, 57, 58] [])) (.skip)) [6, 44] []))) (.fin (.reg g_bbr_ctl_speed_8) [0, 4, 5, 59, 60, 61, 62, 63, 64, 65, 66, 67, 68, 69, 70, 71, 72, 73] [])
def g_bbr_ctl_speed_0 : List (IStep2 RW) := [o1 3 (.box 97 8 false (.s 1))]
def g_bbr_ctl_speed_1 : List (IStep2 RW) := [o1 7 (.fld 3 (.s 3)),
  o1 8 (.load 97 3 1 false false 7),
  o1 9 (.mnmx false [.k (.sc (.int .i64 1099511627776)), .s 8]),
  o1 4 (.mv false (.s 9))]
def g_bbr_ctl_speed_2 : List (IStep2 RW) := [o1 10 (.mv false (.s 4)),
  o1 11 (.bin .eql (.s 10) (.k (.sc (.int .i64 0)))),
  o2 12 (.mv false (.s 11)),
  o3 13 12 false (.fld 4 (.s 3)),
  o3 14 12 false (.load 97 4 1 false false 13),
  ⟨some 15, .mv false (.s 14), (some (12, false)), true⟩,
  o3 16 15 true (.mv false (.s 4)),
  o3 17 15 true (.mv false (.s 0)),
  o3 18 15 true (.ro 1025 [(false, .s 17)] [(74, 22, 15)]),
  o3 19 15 true (.bin .lss (.s 16) (.s 18)),
  o3 20 12 false (.pick (.s 15) (.s 19) (.k (.sc (.bool false)))),
  o1 21 (.pick (.s 12) (.k (.sc (.bool true))) (.s 20))]
def g_bbr_ctl_speed_3 : List (IStep2 RW) := [o1 22 (.mv false (.s 0)),
  o1 23 (.nil (.s 22)),
  o1 24 (.fld 0 (.s 23)),
  o1 25 (.fld 11 (.s 24)),
  o1 26 (.load 74 11 1 false false 25),
  o1 5 (.mv false (.s 26))]
def i_bbr_ctl_speed_1 : IC2 RW := .seq (.fin (.reg g_bbr_ctl_speed_0) [1] []) (.seq (.fin (.reg g_bbr_ctl_speed_1) [7, 8, 9] []) (.seq (.seq (.fin (.reg g_bbr_ctl_speed_2) [3, 10, 11, 12, 13, 14, 15, 16, 17, 18, 19, 20] [(97, 8)]) (.fin (.cond (.s 21) (.clr [0, 4, 21] [] (.ret)) (.skip)) [21] [])) (.seq (.fin (.reg g_bbr_ctl_speed_3) [22, 23, 24, 25, 26] []) i_bbr_ctl_speed_0)))
def fn_bbr_ctl_speed : IFn2 RW := ⟨25, 2, 74, 112, [(74, 22), (97, 8)], [(74, 22)], [], i_bbr_ctl_speed_1⟩
def g_bbr_ctl_shortest_0 : List (IStep2 RW) := [o1 3 (.box 83 8 false (.s 1)),
  o1 4 (.mv false (.k (.sc (.bool false))))]
def g_bbr_ctl_shortest_1 : List (IStep2 RW) := [o1 6 (.mv false (.s 0)),
  o1 7 (.nil (.s 6)),
  o1 8 (.fld 0 (.s 7)),
  o1 9 (.fld 12 (.s 8)),
  o1 10 (.load 60 12 1 false false 9),
  o1 11 (.bin .gtr (.s 10) (.k (.sc (.int .i64 0)))),
  o2 12 (.mv false (.s 11)),
  o3 13 12 true (.fld 0 (.s 3)),
  o3 14 12 true (.load 83 0 1 false false 13),
  o3 15 12 true (.mv false (.s 0)),
  o3 16 12 true (.nil (.s 15)),
  o3 17 12 true (.fld 0 (.s 16)),
  o3 18 12 true (.fld 13 (.s 17)),
  o3 19 12 true (.load 60 13 1 false false 18),
  o3 20 12 true (.bin .sub (.s 14) (.s 19)),
  o3 21 12 true (.bin .gtr (.s 20) (.k (.sc (.int .i64 10000000)))),
  o1 22 (.pick (.s 12) (.s 21) (.k (.sc (.bool false)))),
  o1 5 (.mv false (.s 22))]
def g_bbr_ctl_shortest_2 : List (IStep2 RW) := [o1 23 (.fld 2 (.s 3)),
  o1 24 (.load 83 2 1 false false 23),
  o1 25 (.bin .gtr (.s 24) (.k (.sc (.int .i64 0)))),
  o2 26 (.mv false (.s 25)),
  o3 27 26 true (.mv false (.s 5)),
  ⟨some 28, .mv false (.s 27), (some (26, true)), true⟩,
  o3 29 28 false (.mv false (.s 0)),
  o3 30 28 false (.nil (.s 29)),
  o3 31 28 false (.fld 0 (.s 30)),
  o3 32 28 false (.fld 12 (.s 31)),
  o3 33 28 false (.load 60 12 1 false false 32),
  o3 34 28 false (.bin .eql (.s 33) (.k (.sc (.int .i64 0)))),
  o3 35 26 true (.pick (.s 28) (.k (.sc (.bool true))) (.s 34)),
  ⟨some 36, .mv false (.s 35), (some (26, true)), true⟩,
  o3 37 36 false (.fld 2 (.s 3)),
  o3 38 36 false (.load 83 2 1 false false 37),
  o3 39 36 false (.mv false (.s 0)),
  o3 40 36 false (.nil (.s 39)),
  o3 41 36 false (.fld 0 (.s 40)),
  o3 42 36 false (.fld 12 (.s 41)),
  o3 43 36 false (.load 60 12 1 false false 42),
  o3 44 36 false (.bin .leq (.s 38) (.s 43)),
  o3 45 26 true (.pick (.s 36) (.k (.sc (.bool true))) (.s 44)),
  o1 46 (.pick (.s 26) (.s 45) (.k (.sc (.bool false))))]
def g_bbr_ctl_shortest_3 : List (IStep2 RW) := [o1 47 (.mv false (.s 0)),
  o1 48 (.mv false (.s 0)),
  o1 49 (.fld 2 (.s 3)),
  o1 50 (.load 83 2 1 false false 49),
  o1 51 (.fld 0 (.s 3)),
  o1 52 (.load 83 0 1 false false 51),
  o1 53 (.nil (.s 47)),
  o1 54 (.fld 0 (.s 53)),
  o1 55 (.fld 12 (.s 54)),
  o0 (.store 60 12 1 false 55 (.s 50)),
  o1 56 (.nil (.s 48)),
  o1 57 (.fld 0 (.s 56)),
  o1 58 (.fld 13 (.s 57)),
  o0 (.store 60 13 1 false 58 (.s 52))]
def g_bbr_ctl_shortest_4 : List (IStep2 RW) := [o1 59 (.mv false (.s 5)),
  o1 4 (.mv false (.s 59))]
def i_bbr_ctl_shortest_0 : IC2 RW := .seq (.fin (.reg g_bbr_ctl_shortest_0) [1, 4] []) (.seq (.fin (.reg g_bbr_ctl_shortest_1) [6, 7, 8, 9, 10, 11, 12, 13, 14, 15, 16, 17, 18, 19, 20, 21, 22] []) (.seq (.seq (.fin (.reg g_bbr_ctl_shortest_2) [23, 24, 25, 26, 27, 28, 29, 30, 31, 32, 33, 34, 35, 36, 37, 38, 39, 40, 41, 42, 43, 44, 45] []) (.fin (.cond (.s 46) (.fin (.reg g_bbr_ctl_shortest_3) [0, 3, 46, 47, 48, 49, 50, 51, 52, 53, 54, 55, 56, 57, 58] [(83, 8)]) (.skip)) [0, 3, 46] [(83, 8)])) (.seq (.fin (.reg g_bbr_ctl_shortest_4) [5, 59] []) (.ret))))
def fn_bbr_ctl_shortest : IFn2 RW := ⟨26, 2, 60, 96, [(60, 22), (83, 8)], [(60, 22)], [.slot 4], i_bbr_ctl_shortest_0⟩
def g_bbr_ctl_full_0 : List (IStep2 RW) := [o1 3 (.mv false (.s 0)),
  o1 4 (.ro 1025 [(false, .s 3)] [(48, 22, 15)]),
  o1 2 (.mv false (.s 4))]
def g_bbr_ctl_full_4 : List (IStep2 RW) := [o1 27 (.mv false (.s 2)),
  o1 28 (.bin .eql (.s 27) (.k (.sc (.int .i64 0)))),
  o1 26 (.mv false (.s 28))]
def g_bbr_ctl_full_5 : List (IStep2 RW) := [o1 30 (.mv false (.s 2)),
  o1 31 (.bin .mul (.k (.sc (.int .i64 4))) (.s 30)),
  o1 32 (.mv false (.s 0)),
  o1 33 (.nil (.s 32)),
  o1 34 (.fld 0 (.s 33)),
  o1 35 (.fld 16 (.s 34)),
  o1 36 (.load 48 16 1 false false 35),
  o1 37 (.bin .mul (.k (.sc (.int .i64 5))) (.s 36)),
  o1 38 (.bin .geq (.s 31) (.s 37)),
  o1 29 (.mv false (.s 38))]
def g_bbr_ctl_full_6 : List (IStep2 RW) := [o1 39 (.mv false (.s 0)),
  o1 40 (.mv false (.s 0)),
  o1 41 (.mv false (.s 2)),
  o1 42 (.nil (.s 39)),
  o1 43 (.fld 0 (.s 42)),
  o1 44 (.fld 16 (.s 43)),
  o0 (.store 48 16 1 false 44 (.s 41)),
  o1 45 (.nil (.s 40)),
  o1 46 (.fld 0 (.s 45)),
  o1 47 (.fld 17 (.s 46)),
  o0 (.store 48 17 1 false 47 (.k (.sc (.int .i64 0))))]
def g_bbr_ctl_full_1 : List (IStep2 RW) := [o1 5 (.mv false (.s 0)),
  o1 6 (.mv false (.s 0)),
  o1 7 (.nil (.s 6)),
  o1 8 (.fld 0 (.s 7)),
  o1 9 (.fld 17 (.s 8)),
  o1 10 (.load 48 17 1 false false 9),
  o1 11 (.bin .add (.s 10) (.k (.sc (.int .i64 1)))),
  o1 12 (.mnmx false [.k (.sc (.int .i64 3)), .s 11]),
  o1 13 (.nil (.s 5)),
  o1 14 (.fld 0 (.s 13)),
  o1 15 (.fld 17 (.s 14)),
  o0 (.store 48 17 1 false 15 (.s 12))]
def g_bbr_ctl_full_2 : List (IStep2 RW) := [o1 16 (.mv false (.s 0)),
  o1 17 (.nil (.s 16)),
  o1 18 (.fld 0 (.s 17)),
  o1 19 (.fld 17 (.s 18)),
  o1 20 (.load 48 17 1 false false 19),
  o1 21 (.bin .eql (.s 20) (.k (.sc (.int .i64 3))))]
def g_bbr_ctl_full_3 : List (IStep2 RW) := [o1 22 (.mv false (.s 0)),
  o1 23 (.nil (.s 22)),
  o1 24 (.fld 0 (.s 23)),
  o1 25 (.fld 10 (.s 24)),
  o0 (.store 48 10 1 false 25 (.k (.sc (.int .i64 2))))]
def i_bbr_ctl_full_0 : IC2 RW := .seq (.fin (.reg g_bbr_ctl_full_0) [3, 4] []) (.blk 0 (.seq (.fin (.reg g_bbr_ctl_full_4) [27, 28] []) (.fin (.cond (.s 26) (.skip) (.seq (.fin (.reg g_bbr_ctl_full_5) [26, 30, 31, 32, 33, 34, 35, 36, 37, 38] []) (.cond (.s 29) (.fin (.reg g_bbr_ctl_full_6) [0, 2, 29, 39, 40, 41, 42, 43, 44, 45, 46, 47] []) (.seq (.fin (.reg g_bbr_ctl_full_1) [2, 5, 6, 7, 8, 9, 10, 11, 12, 13, 14, 15, 29] []) (.seq (.fin (.reg g_bbr_ctl_full_2) [16, 17, 18, 19, 20] []) (.fin (.cond (.s 21) (.fin (.reg g_bbr_ctl_full_3) [0, 21, 22, 23, 24, 25] []) (.skip)) [0, 21] [])))))) [0, 2, 26] [])))
def fn_bbr_ctl_full : IFn2 RW := ⟨27, 1, 48, 80, [(48, 22)], [(48, 22)], [], i_bbr_ctl_full_0⟩
def g_math_bits_Mul64_0 : List (IStep2 RW) := [o1 4 (.mv false (.k (.sc (.int .u64 0)))),
  o1 5 (.mv false (.k (.sc (.int .u64 0))))]
def g_math_bits_Mul64_1 : List (IStep2 RW) := [o1 14 (.mv false (.s 0)),
  o1 15 (.bin .and (.s 14) (.k (.sc (.int .u64 4294967295)))),
  o1 6 (.mv false (.s 15))]
def g_math_bits_Mul64_2 : List (IStep2 RW) := [o1 16 (.mv false (.s 0)),
  o1 17 (.bin .shr (.s 16) (.k (.sc (.int .u64 32)))),
  o1 7 (.mv false (.s 17))]
def g_math_bits_Mul64_3 : List (IStep2 RW) := [o1 18 (.mv false (.s 1)),
  o1 19 (.bin .and (.s 18) (.k (.sc (.int .u64 4294967295)))),
  o1 8 (.mv false (.s 19))]
def g_math_bits_Mul64_4 : List (IStep2 RW) := [o1 20 (.mv false (.s 1)),
  o1 21 (.bin .shr (.s 20) (.k (.sc (.int .u64 32)))),
  o1 9 (.mv false (.s 21))]
def g_math_bits_Mul64_5 : List (IStep2 RW) := [o1 22 (.mv false (.s 6)),
  o1 23 (.mv false (.s 8)),
  o1 24 (.bin .mul (.s 22) (.s 23)),
  o1 10 (.mv false (.s 24))]
def g_math_bits_Mul64_6 : List (IStep2 RW) := [o1 25 (.mv false (.s 7)),
  o1 26 (.mv false (.s 8)),
  o1 27 (.bin .mul (.s 25) (.s 26)),
  o1 28 (.mv false (.s 10)),
  o1 29 (.bin .shr (.s 28) (.k (.sc (.int .u64 32)))),
  o1 30 (.bin .add (.s 27) (.s 29)),
  o1 11 (.mv false (.s 30))]
def g_math_bits_Mul64_7 : List (IStep2 RW) := [o1 31 (.mv false (.s 11)),
  o1 32 (.bin .and (.s 31) (.k (.sc (.int .u64 4294967295)))),
  o1 12 (.mv false (.s 32))]
def g_math_bits_Mul64_8 : List (IStep2 RW) := [o1 33 (.mv false (.s 11)),
  o1 34 (.bin .shr (.s 33) (.k (.sc (.int .u64 32)))),
  o1 13 (.mv false (.s 34))]
def g_math_bits_Mul64_9 : List (IStep2 RW) := [o1 35 (.mv false (.s 12)),
  o1 36 (.mv false (.s 6)),
  o1 37 (.mv false (.s 9)),
  o1 38 (.bin .mul (.s 36) (.s 37)),
  o1 39 (.bin .add (.s 35) (.s 38)),
  o1 12 (.mv false (.s 39))]
def g_math_bits_Mul64_10 : List (IStep2 RW) := [o1 40 (.mv false (.s 7)),
  o1 41 (.mv false (.s 9)),
  o1 42 (.bin .mul (.s 40) (.s 41)),
  o1 43 (.mv false (.s 13)),
  o1 44 (.bin .add (.s 42) (.s 43)),
  o1 45 (.mv false (.s 12)),
  o1 46 (.bin .shr (.s 45) (.k (.sc (.int .u64 32)))),
  o1 47 (.bin .add (.s 44) (.s 46)),
  o1 4 (.mv false (.s 47))]
def g_math_bits_Mul64_11 : List (IStep2 RW) := [o1 48 (.mv false (.s 0)),
  o1 49 (.mv false (.s 1)),
  o1 50 (.bin .mul (.s 48) (.s 49)),
  o1 5 (.mv false (.s 50))]
def i_math_bits_Mul64_0 : IC2 RW := .seq (.fin (.reg g_math_bits_Mul64_0) [4, 5] []) (.seq (.fin (.reg g_math_bits_Mul64_1) [14, 15] []) (.seq (.fin (.reg g_math_bits_Mul64_2) [16, 17] []) (.seq (.fin (.reg g_math_bits_Mul64_3) [18, 19] []) (.seq (.fin (.reg g_math_bits_Mul64_4) [20, 21] []) (.seq (.fin (.reg g_math_bits_Mul64_5) [22, 23, 24] []) (.seq (.fin (.reg g_math_bits_Mul64_6) [8, 10, 25, 26, 27, 28, 29, 30] []) (.seq (.fin (.reg g_math_bits_Mul64_7) [31, 32] []) (.seq (.fin (.reg g_math_bits_Mul64_8) [11, 33, 34] []) (.seq (.fin (.reg g_math_bits_Mul64_9) [6, 35, 36, 37, 38, 39] []) (.seq (.fin (.reg g_math_bits_Mul64_10) [7, 9, 12, 13, 40, 41, 42, 43, 44, 45, 46, 47] []) (.seq (.fin (.reg g_math_bits_Mul64_11) [0, 1, 48, 49, 50] []) (.ret))))))))))))
def fn_math_bits_Mul64 : IFn2 RW := ⟨46, 2, 51, 64, [], [], [.slot 4, .slot 5], i_math_bits_Mul64_0⟩
def g_math_bits_Len64_0 : List (IStep2 RW) := [o1 2 (.mv false (.k (.sc (.int .i64 0))))]
def g_math_bits_Len64_1 : List (IStep2 RW) := [o1 3 (.mv false (.s 0)),
  o1 4 (.bin .geq (.s 3) (.k (.sc (.int .u64 4294967296))))]
def g_math_bits_Len64_2 : List (IStep2 RW) := [o1 5 (.mv false (.s 0)),
  o1 6 (.bin .shr (.s 5) (.k (.sc (.int .u64 32)))),
  o1 0 (.mv false (.s 6))]
def g_math_bits_Len64_3 : List (IStep2 RW) := [o1 2 (.mv false (.k (.sc (.int .i64 32))))]
def g_math_bits_Len64_4 : List (IStep2 RW) := [o1 7 (.mv false (.s 0)),
  o1 8 (.bin .geq (.s 7) (.k (.sc (.int .u64 65536))))]
def g_math_bits_Len64_5 : List (IStep2 RW) := [o1 9 (.mv false (.s 0)),
  o1 10 (.bin .shr (.s 9) (.k (.sc (.int .u64 16)))),
  o1 0 (.mv false (.s 10))]
def g_math_bits_Len64_6 : List (IStep2 RW) := [o1 11 (.mv false (.s 2)),
  o1 12 (.bin .add (.s 11) (.k (.sc (.int .i64 16)))),
  o1 2 (.mv false (.s 12))]
def g_math_bits_Len64_7 : List (IStep2 RW) := [o1 13 (.mv false (.s 0)),
  o1 14 (.bin .geq (.s 13) (.k (.sc (.int .u64 256))))]
def g_math_bits_Len64_8 : List (IStep2 RW) := [o1 15 (.mv false (.s 0)),
  o1 16 (.bin .shr (.s 15) (.k (.sc (.int .u64 8)))),
  o1 0 (.mv false (.s 16))]
def g_math_bits_Len64_9 : List (IStep2 RW) := [o1 17 (.mv false (.s 2)),
  o1 18 (.bin .add (.s 17) (.k (.sc (.int .i64 8)))),
  o1 2 (.mv false (.s 18))]
def g_math_bits_Len64_10 : List (IStep2 RW) := [o1 19 (.mv false (.s 2)),
  o1 20 (.mv false (.s 0)),
  o1 21 (.conv .u8 (.s 20)),
  o1 22 (.sidx (.k (.sc (.string tab256_2793))) (.s 21)),
  o1 23 (.conv .i64 (.s 22)),
  o1 24 (.bin .add (.s 19) (.s 23)),
  o1 2 (.mv false (.s 24))]
def i_math_bits_Len64_0 : IC2 RW := .seq (.reg g_math_bits_Len64_0) (.seq (.seq (.fin (.reg g_math_bits_Len64_1) [3] []) (.fin (.cond (.s 4) (.seq (.fin (.reg g_math_bits_Len64_2) [2, 4, 5, 6] []) (.reg g_math_bits_Len64_3)) (.skip)) [4] [])) (.seq (.seq (.fin (.reg g_math_bits_Len64_4) [7] []) (.fin (.cond (.s 8) (.seq (.fin (.reg g_math_bits_Len64_5) [8, 9, 10] []) (.fin (.reg g_math_bits_Len64_6) [11, 12] [])) (.skip)) [8] [])) (.seq (.seq (.fin (.reg g_math_bits_Len64_7) [13] []) (.fin (.cond (.s 14) (.seq (.fin (.reg g_math_bits_Len64_8) [14, 15, 16] []) (.fin (.reg g_math_bits_Len64_9) [17, 18] [])) (.skip)) [14] [])) (.seq (.fin (.reg g_math_bits_Len64_10) [0, 19, 20, 21, 22, 23, 24] []) (.ret)))))
def fn_math_bits_Len64 : IFn2 RW := ⟨49, 1, 25, 32, [], [], [.slot 2], i_math_bits_Len64_0⟩
def g_math_bits_LeadingZeros64_0 : List (IStep2 RW) := [o1 2 (.mv false (.k (.sc (.int .i64 0))))]
def g_math_bits_LeadingZeros64_1 : List (IStep2 RW) := [o1 3 (.mv false (.s 0)),
  o1 4 (.call 49 [(false, .s 3)] []),
  o1 5 (.bin .sub (.k (.sc (.int .i64 64))) (.s 4)),
  o1 2 (.mv false (.s 5))]
def i_math_bits_LeadingZeros64_0 : IC2 RW := .seq (.fin (.reg g_math_bits_LeadingZeros64_0) [2] []) (.seq (.fin (.reg g_math_bits_LeadingZeros64_1) [0, 3, 4, 5] []) (.ret))
def fn_math_bits_LeadingZeros64 : IFn2 RW := ⟨48, 1, 6, 16, [], [], [.slot 2], i_math_bits_LeadingZeros64_0⟩
def g_math_bits_Div64_17 : List (IStep2 RW) := [o1 67 (.mv false (.s 15)),
  o1 68 (.bin .geq (.s 67) (.k (.sc (.int .u64 4294967296)))),
  o2 69 (.mv false (.s 68)),
  o3 70 69 false (.mv false (.s 15)),
  o3 71 69 false (.mv false (.s 10)),
  o3 72 69 false (.bin .mul (.s 70) (.s 71)),
  o3 73 69 false (.mv false (.s 16)),
  o3 74 69 false (.bin .mul (.k (.sc (.int .u64 4294967296))) (.s 73)),
  o3 75 69 false (.mv false (.s 13)),
  o3 76 69 false (.bin .add (.s 74) (.s 75)),
  o3 77 69 false (.bin .gtr (.s 72) (.s 76)),
  o1 78 (.pick (.s 69) (.k (.sc (.bool true))) (.s 77))]
def g_math_bits_Div64_18 : List (IStep2 RW) := [o1 79 (.mv false (.s 15)),
  o1 80 (.bin .sub (.s 79) (.k (.sc (.int .u64 1)))),
  o1 15 (.mv false (.s 80))]
def g_math_bits_Div64_19 : List (IStep2 RW) := [o1 81 (.mv false (.s 16)),
  o1 82 (.mv false (.s 9)),
  o1 83 (.bin .add (.s 81) (.s 82)),
  o1 16 (.mv false (.s 83))]
def g_math_bits_Div64_20 : List (IStep2 RW) := [o1 84 (.mv false (.s 16)),
  o1 85 (.bin .geq (.s 84) (.k (.sc (.int .u64 4294967296))))]
def i_math_bits_Div64_0 : IC2 RW := .seq (.seq (.fin (.reg g_math_bits_Div64_17) [67, 68, 69, 70, 71, 72, 73, 74, 75, 76, 77] []) (.fin (.cond (.s 78) (.skip) (.clr [16, 78] [] (.exit 0))) [78] [])) (.blk 1 (.seq (.fin (.reg g_math_bits_Div64_18) [79, 80] []) (.seq (.fin (.reg g_math_bits_Div64_19) [81, 82, 83] []) (.seq (.fin (.reg g_math_bits_Div64_20) [84] []) (.fin (.cond (.s 85) (.clr [16, 85] [] (.exit 0)) (.skip)) [85] [])))))
def i_math_bits_Div64_1 : IC2 RW := .loop i_math_bits_Div64_0
def i_math_bits_Div64_2 : IC2 RW := .blk 0 i_math_bits_Div64_1
def g_math_bits_Div64_24 : List (IStep2 RW) := [o1 102 (.mv false (.s 18)),
  o1 103 (.bin .geq (.s 102) (.k (.sc (.int .u64 4294967296)))),
  o2 104 (.mv false (.s 103)),
  o3 105 104 false (.mv false (.s 18)),
  o3 106 104 false (.mv false (.s 10)),
  o3 107 104 false (.bin .mul (.s 105) (.s 106)),
  o3 108 104 false (.mv false (.s 16)),
  o3 109 104 false (.bin .mul (.k (.sc (.int .u64 4294967296))) (.s 108)),
  o3 110 104 false (.mv false (.s 14)),
  o3 111 104 false (.bin .add (.s 109) (.s 110)),
  o3 112 104 false (.bin .gtr (.s 107) (.s 111)),
  o1 113 (.pick (.s 104) (.k (.sc (.bool true))) (.s 112))]
def g_math_bits_Div64_25 : List (IStep2 RW) := [o1 114 (.mv false (.s 18)),
  o1 115 (.bin .sub (.s 114) (.k (.sc (.int .u64 1)))),
  o1 18 (.mv false (.s 115))]
def g_math_bits_Div64_26 : List (IStep2 RW) := [o1 116 (.mv false (.s 16)),
  o1 117 (.mv false (.s 9)),
  o1 118 (.bin .add (.s 116) (.s 117)),
  o1 16 (.mv false (.s 118))]
def g_math_bits_Div64_27 : List (IStep2 RW) := [o1 119 (.mv false (.s 16)),
  o1 120 (.bin .geq (.s 119) (.k (.sc (.int .u64 4294967296))))]
def i_math_bits_Div64_3 : IC2 RW := .seq (.seq (.fin (.reg g_math_bits_Div64_24) [102, 103, 104, 105, 106, 107, 108, 109, 110, 111, 112] []) (.fin (.cond (.s 113) (.skip) (.clr [9, 10, 16, 113] [] (.exit 2))) [113] [])) (.blk 3 (.seq (.fin (.reg g_math_bits_Div64_25) [114, 115] []) (.seq (.fin (.reg g_math_bits_Div64_26) [116, 117, 118] []) (.seq (.fin (.reg g_math_bits_Div64_27) [119] []) (.fin (.cond (.s 120) (.clr [9, 10, 16, 120] [] (.exit 2)) (.skip)) [120] [])))))
def i_math_bits_Div64_4 : IC2 RW := .loop i_math_bits_Div64_3
def i_math_bits_Div64_5 : IC2 RW := .blk 2 i_math_bits_Div64_4
def g_math_bits_Div64_28 : List (IStep2 RW) := [o1 121 (.mv false (.s 15)),
  o1 122 (.bin .mul (.s 121) (.k (.sc (.int .u64 4294967296)))),
  o1 123 (.mv false (.s 18)),
  o1 124 (.bin .add (.s 122) (.s 123)),
  o1 125 (.mv false (.s 17)),
  o1 126 (.bin .mul (.s 125) (.k (.sc (.int .u64 4294967296)))),
  o1 127 (.mv false (.s 14)),
  o1 128 (.bin .add (.s 126) (.s 127)),
  o1 129 (.mv false (.s 18)),
  o1 130 (.mv false (.s 2)),
  o1 131 (.bin .mul (.s 129) (.s 130)),
  o1 132 (.bin .sub (.s 128) (.s 131)),
  o1 133 (.mv false (.s 8)),
  o1 134 (.bin .shr (.s 132) (.s 133)),
  o1 6 (.mv false (.s 124)),
  o1 7 (.mv false (.s 134))]
def i_math_bits_Div64_6 : IC2 RW := .seq (.fin (.reg g_math_bits_Div64_28) [2, 8, 14, 15, 17, 18, 121, 122, 123, 124, 125, 126, 127, 128, 129, 130, 131, 132, 133, 134] []) (.ret)
def i_math_bits_Div64_7 : IC2 RW := .seq i_math_bits_Div64_5 i_math_bits_Div64_6
def g_math_bits_Div64_21 : List (IStep2 RW) := [o1 86 (.mv false (.s 11)),
  o1 87 (.bin .mul (.s 86) (.k (.sc (.int .u64 4294967296)))),
  o1 88 (.mv false (.s 13)),
  o1 89 (.bin .add (.s 87) (.s 88)),
  o1 90 (.mv false (.s 15)),
  o1 91 (.mv false (.s 2)),
  o1 92 (.bin .mul (.s 90) (.s 91)),
  o1 93 (.bin .sub (.s 89) (.s 92)),
  o1 17 (.mv false (.s 93))]
def g_math_bits_Div64_22 : List (IStep2 RW) := [o1 94 (.mv false (.s 17)),
  o1 95 (.mv false (.s 9)),
  o1 96 (.bin .quo (.s 94) (.s 95)),
  o1 18 (.mv false (.s 96))]
def g_math_bits_Div64_23 : List (IStep2 RW) := [o1 97 (.mv false (.s 17)),
  o1 98 (.mv false (.s 18)),
  o1 99 (.mv false (.s 9)),
  o1 100 (.bin .mul (.s 98) (.s 99)),
  o1 101 (.bin .sub (.s 97) (.s 100)),
  o1 16 (.mv false (.s 101))]
def i_math_bits_Div64_8 : IC2 RW := .seq (.fin (.reg g_math_bits_Div64_21) [11, 13, 86, 87, 88, 89, 90, 91, 92, 93] []) (.seq (.fin (.reg g_math_bits_Div64_22) [94, 95, 96] []) (.seq (.fin (.reg g_math_bits_Div64_23) [97, 98, 99, 100, 101] []) i_math_bits_Div64_7))
def i_math_bits_Div64_9 : IC2 RW := .seq i_math_bits_Div64_2 i_math_bits_Div64_8
def g_math_bits_Div64_0 : List (IStep2 RW) := [o1 6 (.mv false (.k (.sc (.int .u64 0)))),
  o1 7 (.mv false (.k (.sc (.int .u64 0))))]
def g_math_bits_Div64_1 : List (IStep2 RW) := [o1 19 (.mv false (.s 2)),
  o1 20 (.bin .eql (.s 19) (.k (.sc (.int .u64 0))))]
def g_math_bits_Div64_3 : List (IStep2 RW) := [o1 22 (.mv false (.s 2)),
  o1 23 (.mv false (.s 0)),
  o1 24 (.bin .leq (.s 22) (.s 23))]
def g_math_bits_Div64_5 : List (IStep2 RW) := [o1 26 (.mv false (.s 0)),
  o1 27 (.bin .eql (.s 26) (.k (.sc (.int .u64 0))))]
def g_math_bits_Div64_6 : List (IStep2 RW) := [o1 28 (.mv false (.s 1)),
  o1 29 (.mv false (.s 2)),
  o1 30 (.bin .quo (.s 28) (.s 29)),
  o1 31 (.mv false (.s 1)),
  o1 32 (.mv false (.s 2)),
  o1 33 (.bin .rem (.s 31) (.s 32)),
  o1 6 (.mv false (.s 30)),
  o1 7 (.mv false (.s 33))]
def g_math_bits_Div64_7 : List (IStep2 RW) := [o1 34 (.mv false (.s 2)),
  o1 35 (.call 48 [(false, .s 34)] []),
  o1 36 (.conv .u64 (.s 35)),
  o1 8 (.mv false (.s 36))]
def g_math_bits_Div64_8 : List (IStep2 RW) := [o1 37 (.mv false (.s 2)),
  o1 38 (.mv false (.s 8)),
  o1 39 (.bin .shl (.s 37) (.s 38)),
  o1 2 (.mv false (.s 39))]
def g_math_bits_Div64_9 : List (IStep2 RW) := [o1 40 (.mv false (.s 2)),
  o1 41 (.bin .shr (.s 40) (.k (.sc (.int .u64 32)))),
  o1 9 (.mv false (.s 41))]
def g_math_bits_Div64_10 : List (IStep2 RW) := [o1 42 (.mv false (.s 2)),
  o1 43 (.bin .and (.s 42) (.k (.sc (.int .u64 4294967295)))),
  o1 10 (.mv false (.s 43))]
def g_math_bits_Div64_11 : List (IStep2 RW) := [o1 44 (.mv false (.s 0)),
  o1 45 (.mv false (.s 8)),
  o1 46 (.bin .shl (.s 44) (.s 45)),
  o1 47 (.mv false (.s 1)),
  o1 48 (.mv false (.s 8)),
  o1 49 (.bin .sub (.k (.sc (.int .u64 64))) (.s 48)),
  o1 50 (.bin .shr (.s 47) (.s 49)),
  o1 51 (.bin .or (.s 46) (.s 50)),
  o1 11 (.mv false (.s 51))]
def g_math_bits_Div64_12 : List (IStep2 RW) := [o1 52 (.mv false (.s 1)),
  o1 53 (.mv false (.s 8)),
  o1 54 (.bin .shl (.s 52) (.s 53)),
  o1 12 (.mv false (.s 54))]
def g_math_bits_Div64_13 : List (IStep2 RW) := [o1 55 (.mv false (.s 12)),
  o1 56 (.bin .shr (.s 55) (.k (.sc (.int .u64 32)))),
  o1 13 (.mv false (.s 56))]
def g_math_bits_Div64_14 : List (IStep2 RW) := [o1 57 (.mv false (.s 12)),
  o1 58 (.bin .and (.s 57) (.k (.sc (.int .u64 4294967295)))),
  o1 14 (.mv false (.s 58))]
def g_math_bits_Div64_15 : List (IStep2 RW) := [o1 59 (.mv false (.s 11)),
  o1 60 (.mv false (.s 9)),
  o1 61 (.bin .quo (.s 59) (.s 60)),
  o1 15 (.mv false (.s 61))]
def g_math_bits_Div64_16 : List (IStep2 RW) := [o1 62 (.mv false (.s 11)),
  o1 63 (.mv false (.s 15)),
  o1 64 (.mv false (.s 9)),
  o1 65 (.bin .mul (.s 63) (.s 64)),
  o1 66 (.bin .sub (.s 62) (.s 65)),
  o1 16 (.mv false (.s 66))]
def i_math_bits_Div64_10 : IC2 RW := .seq (.fin (.reg g_math_bits_Div64_0) [6, 7] []) (.seq (.seq (.fin (.reg g_math_bits_Div64_1) [19] []) (.fin (.cond (.s 20) (.stuck) (.skip)) [20] [])) (.seq (.seq (.fin (.reg g_math_bits_Div64_3) [22, 23] []) (.fin (.cond (.s 24) (.stuck) (.skip)) [24] [])) (.seq (.seq (.fin (.reg g_math_bits_Div64_5) [26] []) (.fin (.cond (.s 27) (.seq (.fin (.reg g_math_bits_Div64_6) [0, 1, 2, 27, 28, 29, 30, 31, 32, 33] []) (.ret)) (.skip)) [27] [])) (.seq (.fin (.reg g_math_bits_Div64_7) [34, 35, 36] []) (.seq (.fin (.reg g_math_bits_Div64_8) [37, 38, 39] []) (.seq (.fin (.reg g_math_bits_Div64_9) [40, 41] []) (.seq (.fin (.reg g_math_bits_Div64_10) [42, 43] []) (.seq (.fin (.reg g_math_bits_Div64_11) [0, 44, 45, 46, 47, 48, 49, 50, 51] []) (.seq (.fin (.reg g_math_bits_Div64_12) [1, 52, 53, 54] []) (.seq (.fin (.reg g_math_bits_Div64_13) [55, 56] []) (.seq (.fin (.reg g_math_bits_Div64_14) [12, 57, 58] []) (.seq (.fin (.reg g_math_bits_Div64_15) [59, 60, 61] []) (.seq (.fin (.reg g_math_bits_Div64_16) [62, 63, 64, 65, 66] []) i_math_bits_Div64_9)))))))))))))
def fn_math_bits_Div64 : IFn2 RW := ⟨47, 3, 135, 144, [], [], [.slot 6, .slot 7], i_math_bits_Div64_10⟩
def g_seq_MulDiv_0 : List (IStep2 RW) := [o1 6 (.mv false (.k (.sc (.int .i64 0)))),
  o1 7 (.mv false (.k (.sc (.int .i64 0))))]
def g_seq_MulDiv_1 : List (IStep2 RW) := [o1 12 (.mv false (.s 0)),
  o1 13 (.bin .lss (.s 12) (.k (.sc (.int .i64 0)))),
  o2 14 (.mv false (.s 13)),
  o3 15 14 false (.mv false (.s 1)),
  o3 16 14 false (.bin .lss (.s 15) (.k (.sc (.int .i64 0)))),
  o1 17 (.pick (.s 14) (.k (.sc (.bool true))) (.s 16)),
  o2 18 (.mv false (.s 17)),
  o3 19 18 false (.mv false (.s 2)),
  o3 20 18 false (.bin .leq (.s 19) (.k (.sc (.int .i64 0)))),
  o1 21 (.pick (.s 18) (.k (.sc (.bool true))) (.s 20))]
def g_seq_MulDiv_2 : List (IStep2 RW) := [o1 6 (.mv false (.k (.sc (.int .i64 0)))),
  o1 7 (.mv false (.k (.sc (.int .i64 2))))]
def g_seq_MulDiv_3 : List (IStep2 RW) := [o1 23 (.mv false (.s 0)),
  o1 24 (.conv .u64 (.s 23)),
  o1 25 (.mv false (.s 1)),
  o1 26 (.conv .u64 (.s 25)),
  o1 27 (.call 46 [(false, .s 24), (false, .s 26)] []),
  o1 22 (.mv false (.s 27)),
  o1 28 (.ext false 0 (.s 22)),
  o1 29 (.ext false 1 (.s 22)),
  o1 8 (.mv false (.s 28)),
  o1 9 (.mv false (.s 29))]
def g_seq_MulDiv_4 : List (IStep2 RW) := [o1 30 (.mv false (.s 8)),
  o1 31 (.mv false (.s 2)),
  o1 32 (.conv .u64 (.s 31)),
  o1 33 (.bin .geq (.s 30) (.s 32))]
def g_seq_MulDiv_5 : List (IStep2 RW) := [o1 6 (.mv false (.k (.sc (.int .i64 9223372036854775807)))),
  o1 7 (.mv false (.k (.sc (.int .i64 0))))]
def g_seq_MulDiv_6 : List (IStep2 RW) := [o1 35 (.mv false (.s 8)),
  o1 36 (.mv false (.s 9)),
  o1 37 (.mv false (.s 2)),
  o1 38 (.conv .u64 (.s 37)),
  o1 39 (.call 47 [(false, .s 35), (false, .s 36), (false, .s 38)] []),
  o1 34 (.mv false (.s 39)),
  o1 40 (.ext false 0 (.s 34)),
  o1 41 (.ext false 1 (.s 34)),
  o1 10 (.mv false (.s 40)),
  o1 11 (.mv false (.s 41))]
def g_seq_MulDiv_7 : List (IStep2 RW) := [o1 42 (.mv false (.s 10)),
  o1 43 (.mnmx false [.s 42, .k (.sc (.int .u64 9223372036854775807))]),
  o1 44 (.conv .i64 (.s 43)),
  o1 6 (.mv false (.s 44)),
  o1 7 (.mv false (.k (.sc (.int .i64 0))))]
def i_seq_MulDiv_0 : IC2 RW := .seq (.fin (.reg g_seq_MulDiv_0) [6, 7] []) (.seq (.seq (.fin (.reg g_seq_MulDiv_1) [12, 13, 14, 15, 16, 17, 18, 19, 20] []) (.fin (.cond (.s 21) (.seq (.fin (.reg g_seq_MulDiv_2) [0, 1, 2, 21] []) (.ret)) (.skip)) [21] [])) (.seq (.fin (.reg g_seq_MulDiv_3) [0, 1, 22, 23, 24, 25, 26, 27, 28, 29] []) (.seq (.seq (.fin (.reg g_seq_MulDiv_4) [30, 31, 32] []) (.fin (.cond (.s 33) (.seq (.fin (.reg g_seq_MulDiv_5) [2, 8, 9, 33] []) (.ret)) (.skip)) [33] [])) (.seq (.fin (.reg g_seq_MulDiv_6) [2, 8, 9, 11, 34, 35, 36, 37, 38, 39, 40, 41] []) (.seq (.fin (.reg g_seq_MulDiv_7) [10, 42, 43, 44] []) (.ret))))))
def fn_seq_MulDiv : IFn2 RW := ⟨41, 3, 45, 48, [], [], [.slot 6, .slot 7], i_seq_MulDiv_0⟩
def g_bbr_ctl_product_0 : List (IStep2 RW) := [o1 2 (.mv false (.k (.sc (.int .i64 0))))]
def g_bbr_ctl_product_1 : List (IStep2 RW) := [o1 6 (.mv false (.s 0)),
  o1 7 (.ro 1025 [(false, .s 6)] [(18, 22, 15)]),
  o1 8 (.mv false (.s 0)),
  o1 9 (.nil (.s 8)),
  o1 10 (.fld 0 (.s 9)),
  o1 11 (.fld 12 (.s 10)),
  o1 12 (.load 18 12 1 false false 11),
  o1 13 (.call 41 [(false, .s 7), (false, .s 12), (false, .k (.sc (.int .i64 1000000)))] []),
  o1 5 (.mv false (.s 13)),
  o1 14 (.ext false 0 (.s 5)),
  o1 15 (.ext false 1 (.s 5)),
  o1 3 (.mv false (.s 14)),
  o1 4 (.mv false (.s 15))]
def g_bbr_ctl_product_2 : List (IStep2 RW) := [o1 16 (.mv false (.s 3)),
  o1 17 (.mnmx false [.k (.sc (.int .i64 1073741824)), .s 16]),
  o1 2 (.mv false (.s 17))]
def i_bbr_ctl_product_0 : IC2 RW := .seq (.fin (.reg g_bbr_ctl_product_0) [2] []) (.seq (.fin (.reg g_bbr_ctl_product_1) [0, 4, 5, 6, 7, 8, 9, 10, 11, 12, 13, 14, 15] []) (.seq (.fin (.reg g_bbr_ctl_product_2) [3, 16, 17] []) (.ret)))
def fn_bbr_ctl_product : IFn2 RW := ⟨32, 1, 18, 48, [(18, 22)], [(18, 22)], [.slot 2], i_bbr_ctl_product_0⟩
def g_bbr_ctl_probe_0 : List (IStep2 RW) := [o1 4 (.mv false (.s 0)),
  o1 5 (.mv false (.s 0)),
  o1 6 (.mv false (.s 0)),
  o1 7 (.mv false (.s 1)),
  o1 8 (.nil (.s 4)),
  o1 9 (.fld 0 (.s 8)),
  o1 10 (.fld 10 (.s 9)),
  o0 (.store 17 10 1 false 10 (.k (.sc (.int .i64 3)))),
  o1 11 (.nil (.s 5)),
  o1 12 (.fld 0 (.s 11)),
  o1 13 (.fld 18 (.s 12)),
  o0 (.store 17 18 1 false 13 (.k (.sc (.int .i64 2)))),
  o1 14 (.nil (.s 6)),
  o1 15 (.fld 0 (.s 14)),
  o1 16 (.fld 19 (.s 15)),
  o0 (.store 17 19 1 false 16 (.s 7))]
def i_bbr_ctl_probe_0 : IC2 RW := .fin (.reg g_bbr_ctl_probe_0) [0, 1, 4, 5, 6, 7, 8, 9, 10, 11, 12, 13, 14, 15, 16] []
def fn_bbr_ctl_probe : IFn2 RW := ⟨38, 2, 17, 48, [(17, 22)], [(17, 22)], [], i_bbr_ctl_probe_0⟩
def g_bbr_ctl_cycle_0 : List (IStep2 RW) := [o1 3 (.box 85 8 false (.s 1))]
def g_bbr_ctl_cycle_1 : List (IStep2 RW) := [o1 5 (.mv false (.s 0)),
  o1 6 (.nil (.s 5)),
  o1 7 (.fld 0 (.s 6)),
  o1 8 (.fld 10 (.s 7)),
  o1 9 (.load 62 10 1 false false 8),
  o1 10 (.bin .eql (.s 9) (.k (.sc (.int .i64 2)))),
  o2 11 (.mv false (.s 10)),
  o3 12 11 true (.fld 7 (.s 3)),
  o3 13 11 true (.load 85 7 1 false false 12),
  o3 14 11 true (.mv false (.s 0)),
  o3 15 11 true (.ro 1031 [(false, .s 14)] [(62, 22, 18)]),
  o3 16 11 true (.bin .leq (.s 13) (.s 15)),
  o1 17 (.pick (.s 11) (.s 16) (.k (.sc (.bool false)))),
  o1 4 (.mv false (.s 17))]
def g_bbr_ctl_cycle_2 : List (IStep2 RW) := [o1 18 (.mv false (.s 0)),
  o1 19 (.fld 0 (.s 3)),
  o1 20 (.load 85 0 1 false false 19),
  o1 21 (.call 1037 [(false, .s 18), (false, .s 20)] [(62, 22, 17)])]
def g_bbr_ctl_cycle_3 : List (IStep2 RW) := [o1 23 (.mv false (.s 0)),
  o1 24 (.nil (.s 23)),
  o1 25 (.fld 0 (.s 24)),
  o1 26 (.fld 10 (.s 25)),
  o1 27 (.load 62 10 1 false false 26),
  o1 28 (.bin .eql (.s 27) (.k (.sc (.int .i64 3)))),
  o2 29 (.mv false (.s 28)),
  o3 30 29 true (.fld 0 (.s 3)),
  o3 31 29 true (.load 85 0 1 false false 30),
  o3 32 29 true (.mv false (.s 0)),
  o3 33 29 true (.nil (.s 32)),
  o3 34 29 true (.fld 0 (.s 33)),
  o3 35 29 true (.fld 19 (.s 34)),
  o3 36 29 true (.load 62 19 1 false false 35),
  o3 37 29 true (.bin .sub (.s 31) (.s 36)),
  o3 38 29 true (.mv false (.s 0)),
  o3 39 29 true (.nil (.s 38)),
  o3 40 29 true (.fld 0 (.s 39)),
  o3 41 29 true (.fld 12 (.s 40)),
  o3 42 29 true (.load 62 12 1 false false 41),
  o3 43 29 true (.bin .gtr (.s 37) (.s 42)),
  o1 44 (.pick (.s 29) (.s 43) (.k (.sc (.bool false)))),
  o1 22 (.mv false (.s 44))]
def g_bbr_ctl_cycle_4 : List (IStep2 RW) := [o1 45 (.mv false (.s 0)),
  o1 46 (.mv false (.s 0)),
  o1 47 (.mv false (.s 0)),
  o1 48 (.nil (.s 47)),
  o1 49 (.fld 0 (.s 48)),
  o1 50 (.fld 18 (.s 49)),
  o1 51 (.load 62 18 1 false false 50),
  o1 52 (.bin .add (.s 51) (.k (.sc (.int .i64 1)))),
  o1 53 (.bin .rem (.s 52) (.k (.sc (.int .i64 8)))),
  o1 54 (.fld 0 (.s 3)),
  o1 55 (.load 85 0 1 false false 54),
  o1 56 (.nil (.s 45)),
  o1 57 (.fld 0 (.s 56)),
  o1 58 (.fld 18 (.s 57)),
  o0 (.store 62 18 1 false 58 (.s 53)),
  o1 59 (.nil (.s 46)),
  o1 60 (.fld 0 (.s 59)),
  o1 61 (.fld 19 (.s 60)),
  o0 (.store 62 19 1 false 61 (.s 55))]
def i_bbr_ctl_cycle_0 : IC2 RW := .seq (.fin (.reg g_bbr_ctl_cycle_0) [1] []) (.blk 0 (.seq (.fin (.reg g_bbr_ctl_cycle_1) [5, 6, 7, 8, 9, 10, 11, 12, 13, 14, 15, 16, 17] []) (.cond (.s 4) (.fin (.reg g_bbr_ctl_cycle_2) [0, 3, 4, 18, 19, 20, 21] [(85, 8)]) (.seq (.fin (.reg g_bbr_ctl_cycle_3) [4, 23, 24, 25, 26, 27, 28, 29, 30, 31, 32, 33, 34, 35, 36, 37, 38, 39, 40, 41, 42, 43, 44] []) (.fin (.cond (.s 22) (.fin (.reg g_bbr_ctl_cycle_4) [0, 3, 22, 45, 46, 47, 48, 49, 50, 51, 52, 53, 54, 55, 56, 57, 58, 59, 60, 61] [(85, 8)]) (.skip)) [0, 3, 22] [(85, 8)])))))
def fn_bbr_ctl_cycle : IFn2 RW := ⟨28, 2, 62, 96, [(62, 22), (85, 8)], [(62, 22)], [], i_bbr_ctl_cycle_0⟩
def g_bbr_ctl_ask_2 : List (IStep2 RW) := [o1 16 (.mv false (.s 0)),
  o1 17 (.mv false (.s 0)),
  o1 18 (.mv false (.s 0)),
  o1 19 (.mv false (.s 0)),
  o1 20 (.nil (.s 19)),
  o1 21 (.fld 0 (.s 20)),
  o1 22 (.fld 2 (.s 21)),
  o1 23 (.load 122 2 1 false false 22),
  o1 24 (.nil (.s 16)),
  o1 25 (.fld 0 (.s 24)),
  o1 26 (.fld 10 (.s 25)),
  o0 (.store 122 10 1 false 26 (.k (.sc (.int .i64 4)))),
  o1 27 (.nil (.s 17)),
  o1 28 (.fld 0 (.s 27)),
  o1 29 (.fld 21 (.s 28)),
  o0 (.store 122 21 1 false 29 (.s 23)),
  o1 30 (.nil (.s 18)),
  o1 31 (.fld 0 (.s 30)),
  o1 32 (.fld 20 (.s 31)),
  o0 (.store 122 20 1 false 32 (.k (.sc (.int .i64 0))))]
def g_bbr_ctl_ask_3 : List (IStep2 RW) := [o1 34 (.mv false (.s 0)),
  o1 35 (.nil (.s 34)),
  o1 36 (.fld 0 (.s 35)),
  o1 37 (.fld 10 (.s 36)),
  o1 38 (.load 122 10 1 false false 37),
  o1 39 (.bin .neq (.s 38) (.k (.sc (.int .i64 4)))),
  o1 33 (.mv false (.s 39))]
def g_bbr_ctl_ask_4 : List (IStep2 RW) := [o1 41 (.mv false (.s 0)),
  o1 42 (.nil (.s 41)),
  o1 43 (.fld 0 (.s 42)),
  o1 44 (.fld 20 (.s 43)),
  o1 45 (.load 122 20 1 false false 44),
  o1 46 (.bin .eql (.s 45) (.k (.sc (.int .i64 0)))),
  o2 47 (.mv false (.s 46)),
  o3 48 47 true (.fld 7 (.s 4)),
  o3 49 47 true (.load 145 7 1 false false 48),
  o3 50 47 true (.mv false (.s 0)),
  o3 51 47 true (.nil (.s 50)),
  o3 52 47 true (.fld 0 (.s 51)),
  o3 53 47 true (.fld 1 (.s 52)),
  o3 54 47 true (.load 122 1 1 false false 53),
  o3 55 47 true (.bin .mul (.k (.sc (.int .i64 4))) (.s 54)),
  o3 56 47 true (.bin .leq (.s 49) (.s 55)),
  o1 57 (.pick (.s 47) (.s 56) (.k (.sc (.bool false)))),
  o1 40 (.mv false (.s 57))]
def g_bbr_ctl_ask_5 : List (IStep2 RW) := [o1 58 (.mv false (.s 0)),
  o1 59 (.fld 0 (.s 4)),
  o1 60 (.load 145 0 1 false false 59),
  o1 61 (.bin .add (.s 60) (.k (.sc (.int .i64 200000)))),
  o1 62 (.mnmx false [.k (.sc (.int .i64 1125899906842624)), .s 61]),
  o1 63 (.nil (.s 58)),
  o1 64 (.fld 0 (.s 63)),
  o1 65 (.fld 20 (.s 64)),
  o0 (.store 122 20 1 false 65 (.s 62))]
def g_bbr_ctl_ask_6 : List (IStep2 RW) := [o1 67 (.mv false (.s 0)),
  o1 68 (.nil (.s 67)),
  o1 69 (.fld 0 (.s 68)),
  o1 70 (.fld 20 (.s 69)),
  o1 71 (.load 122 20 1 false false 70),
  o1 72 (.bin .gtr (.s 71) (.k (.sc (.int .i64 0)))),
  o2 73 (.mv false (.s 72)),
  o3 74 73 true (.fld 0 (.s 4)),
  o3 75 73 true (.load 145 0 1 false false 74),
  o3 76 73 true (.mv false (.s 0)),
  o3 77 73 true (.nil (.s 76)),
  o3 78 73 true (.fld 0 (.s 77)),
  o3 79 73 true (.fld 20 (.s 78)),
  o3 80 73 true (.load 122 20 1 false false 79),
  o3 81 73 true (.bin .geq (.s 75) (.s 80)),
  o1 82 (.pick (.s 73) (.s 81) (.k (.sc (.bool false)))),
  o1 66 (.mv false (.s 82))]
def g_bbr_ctl_ask_7 : List (IStep2 RW) := [o1 83 (.mv false (.s 0)),
  o1 84 (.mv false (.s 0)),
  o1 85 (.mv false (.s 0)),
  o1 86 (.fld 0 (.s 4)),
  o1 87 (.load 145 0 1 false false 86),
  o1 88 (.mv false (.s 0)),
  o1 89 (.nil (.s 88)),
  o1 90 (.fld 0 (.s 89)),
  o1 91 (.fld 2 (.s 90)),
  o1 92 (.load 122 2 1 false false 91),
  o1 93 (.mv false (.s 0)),
  o1 94 (.nil (.s 93)),
  o1 95 (.fld 0 (.s 94)),
  o1 96 (.fld 21 (.s 95)),
  o1 97 (.load 122 21 1 false false 96),
  o1 98 (.mnmx true [.s 92, .s 97]),
  o1 99 (.nil (.s 83)),
  o1 100 (.fld 0 (.s 99)),
  o1 101 (.fld 13 (.s 100)),
  o0 (.store 122 13 1 false 101 (.s 87)),
  o1 102 (.nil (.s 84)),
  o1 103 (.fld 0 (.s 102)),
  o1 104 (.fld 2 (.s 103)),
  o0 (.store 122 2 1 false 104 (.s 98)),
  o1 105 (.nil (.s 85)),
  o1 106 (.fld 0 (.s 105)),
  o1 107 (.fld 20 (.s 106)),
  o0 (.store 122 20 1 false 107 (.k (.sc (.int .i64 0))))]
def g_bbr_ctl_ask_8 : List (IStep2 RW) := [o1 108 (.mv false (.s 0)),
  o1 109 (.nil (.s 108)),
  o1 110 (.fld 0 (.s 109)),
  o1 111 (.fld 17 (.s 110)),
  o1 112 (.load 122 17 1 false false 111),
  o1 113 (.bin .eql (.s 112) (.k (.sc (.int .i64 3))))]
def g_bbr_ctl_ask_9 : List (IStep2 RW) := [o1 114 (.mv false (.s 0)),
  o1 115 (.fld 0 (.s 4)),
  o1 116 (.load 145 0 1 false false 115),
  o1 117 (.call 1037 [(false, .s 114), (false, .s 116)] [(122, 22, 17)])]
def g_bbr_ctl_ask_10 : List (IStep2 RW) := [o1 118 (.mv false (.s 0)),
  o1 119 (.nil (.s 118)),
  o1 120 (.fld 0 (.s 119)),
  o1 121 (.fld 10 (.s 120)),
  o0 (.store 122 10 1 false 121 (.k (.sc (.int .i64 1))))]
def i_bbr_ctl_ask_0 : IC2 RW := .cond (.s 6) (.fin (.reg g_bbr_ctl_ask_2) [0, 4, 6, 16, 17, 18, 19, 20, 21, 22, 23, 24, 25, 26, 27, 28, 29, 30, 31, 32] [(145, 8)]) (.seq (.fin (.reg g_bbr_ctl_ask_3) [6, 34, 35, 36, 37, 38, 39] []) (.fin (.cond (.s 33) (.skip) (.seq (.fin (.reg g_bbr_ctl_ask_4) [33, 41, 42, 43, 44, 45, 46, 47, 48, 49, 50, 51, 52, 53, 54, 55, 56, 57] []) (.cond (.s 40) (.fin (.reg g_bbr_ctl_ask_5) [0, 4, 40, 58, 59, 60, 61, 62, 63, 64, 65] [(145, 8)]) (.seq (.fin (.reg g_bbr_ctl_ask_6) [40, 67, 68, 69, 70, 71, 72, 73, 74, 75, 76, 77, 78, 79, 80, 81, 82] []) (.fin (.cond (.s 66) (.seq (.fin (.reg g_bbr_ctl_ask_7) [66, 83, 84, 85, 86, 87, 88, 89, 90, 91, 92, 93, 94, 95, 96, 97, 98, 99, 100, 101, 102, 103, 104, 105, 106, 107] []) (.seq (.fin (.reg g_bbr_ctl_ask_8) [108, 109, 110, 111, 112] []) (.cond (.s 113) (.fin (.reg g_bbr_ctl_ask_9) [0, 4, 113, 114, 115, 116, 117] [(145, 8)]) (.fin (.reg g_bbr_ctl_ask_10) [0, 4, 113, 118, 119, 120, 121] [(145, 8)])))) (.skip)) [0, 4, 66] [(145, 8)]))))) [0, 4, 33] [(145, 8)]))
def g_bbr_ctl_ask_1 : List (IStep2 RW) := [o1 7 (.mv false (.s 2)),
  o2 8 (.mv false (.s 7)),
  o3 9 8 true (.mv false (.s 0)),
  o3 10 8 true (.nil (.s 9)),
  o3 11 8 true (.fld 0 (.s 10)),
  o3 12 8 true (.fld 10 (.s 11)),
  o3 13 8 true (.load 122 10 1 false false 12),
  o3 14 8 true (.bin .neq (.s 13) (.k (.sc (.int .i64 4)))),
  o1 15 (.pick (.s 8) (.s 14) (.k (.sc (.bool false)))),
  o1 6 (.mv false (.s 15))]
def i_bbr_ctl_ask_1 : IC2 RW := .seq (.fin (.reg g_bbr_ctl_ask_1) [2, 7, 8, 9, 10, 11, 12, 13, 14, 15] []) i_bbr_ctl_ask_0
def i_bbr_ctl_ask_2 : IC2 RW := .blk 0 i_bbr_ctl_ask_1
def g_bbr_ctl_ask_0 : List (IStep2 RW) := [o1 4 (.box 145 8 false (.s 1))]
def i_bbr_ctl_ask_3 : IC2 RW := .seq (.fin (.reg g_bbr_ctl_ask_0) [1] []) i_bbr_ctl_ask_2
def fn_bbr_ctl_ask : IFn2 RW := ⟨29, 3, 122, 160, [(122, 22), (145, 8)], [(122, 22)], [], i_bbr_ctl_ask_3⟩
def g_seq_Clamp_0 : List (IStep2 RW) := [o1 6 (.mv false (.k (.sc (.int .i64 0))))]
def g_seq_Clamp_1 : List (IStep2 RW) := [o1 7 (.mv false (.s 1)),
  o1 8 (.mv false (.s 0)),
  o1 9 (.mv false (.s 2)),
  o1 10 (.mnmx false [.s 8, .s 9]),
  o1 11 (.mnmx true [.s 7, .s 10]),
  o1 6 (.mv false (.s 11))]
def i_seq_Clamp_0 : IC2 RW := .seq (.fin (.reg g_seq_Clamp_0) [6] []) (.seq (.fin (.reg g_seq_Clamp_1) [0, 1, 2, 7, 8, 9, 10, 11] []) (.ret))
def fn_seq_Clamp : IFn2 RW := ⟨39, 3, 12, 16, [], [], [.slot 6], i_seq_Clamp_0⟩
def g_bbr_ctl_window_9 : List (IStep2 RW) := [o1 62 (.mv false (.s 0)),
  o1 63 (.mv false (.s 5)),
  o1 64 (.mv false (.s 0)),
  o1 65 (.nil (.s 64)),
  o1 66 (.fld 0 (.s 65)),
  o1 67 (.fld 1 (.s 66)),
  o1 68 (.load 73 1 1 false false 67),
  o1 69 (.call 39 [(false, .s 63), (false, .s 68), (false, .k (.sc (.int .i64 1073741824)))] []),
  o1 70 (.nil (.s 62)),
  o1 71 (.fld 0 (.s 70)),
  o1 72 (.fld 2 (.s 71)),
  o0 (.store 73 2 1 false 72 (.s 69))]
def i_bbr_ctl_window_0 : IC2 RW := .fin (.reg g_bbr_ctl_window_9) [0, 5, 62, 63, 64, 65, 66, 67, 68, 69, 70, 71, 72] []
def g_bbr_ctl_window_3 : List (IStep2 RW) := [o1 22 (.mv false (.s 0)),
  o1 23 (.nil (.s 22)),
  o1 24 (.fld 0 (.s 23)),
  o1 25 (.fld 10 (.s 24)),
  o1 26 (.load 73 10 1 false false 25),
  o1 27 (.bin .eql (.s 26) (.k (.sc (.int .i64 4)))),
  o1 21 (.mv false (.s 27))]
def g_bbr_ctl_window_4 : List (IStep2 RW) := [o1 28 (.mv false (.s 5)),
  o1 29 (.mv false (.s 0)),
  o1 30 (.nil (.s 29)),
  o1 31 (.fld 0 (.s 30)),
  o1 32 (.fld 1 (.s 31)),
  o1 33 (.load 73 1 1 false false 32),
  o1 34 (.bin .mul (.k (.sc (.int .i64 4))) (.s 33)),
  o1 35 (.mnmx false [.s 28, .s 34]),
  o1 5 (.mv false (.s 35))]
def g_bbr_ctl_window_5 : List (IStep2 RW) := [o1 37 (.mv false (.s 0)),
  o1 38 (.nil (.s 37)),
  o1 39 (.fld 0 (.s 38)),
  o1 40 (.fld 17 (.s 39)),
  o1 41 (.load 73 17 1 false false 40),
  o1 42 (.bin .eql (.s 41) (.k (.sc (.int .i64 3)))),
  o1 36 (.mv false (.s 42))]
def g_bbr_ctl_window_6 : List (IStep2 RW) := [o1 43 (.mv false (.s 4)),
  o1 44 (.mv false (.s 5)),
  o1 45 (.fld 1 (.s 3)),
  o1 46 (.load 96 1 1 false false 45),
  o1 47 (.bin .add (.s 44) (.s 46)),
  o1 48 (.mnmx false [.s 43, .s 47]),
  o1 5 (.mv false (.s 48))]
def g_bbr_ctl_window_7 : List (IStep2 RW) := [o1 50 (.mv false (.s 5)),
  o1 51 (.mv false (.s 4)),
  o1 52 (.bin .lss (.s 50) (.s 51)),
  o2 53 (.mv false (.s 52)),
  o3 54 53 false (.mv false (.s 0)),
  o3 55 53 false (.ro 1025 [(false, .s 54)] [(73, 22, 15)]),
  o3 56 53 false (.bin .eql (.s 55) (.k (.sc (.int .i64 0)))),
  o1 57 (.pick (.s 53) (.k (.sc (.bool true))) (.s 56)),
  o1 49 (.mv false (.s 57))]
def g_bbr_ctl_window_8 : List (IStep2 RW) := [o1 58 (.mv false (.s 5)),
  o1 59 (.fld 1 (.s 3)),
  o1 60 (.load 96 1 1 false false 59),
  o1 61 (.bin .add (.s 58) (.s 60)),
  o1 5 (.mv false (.s 61))]
def i_bbr_ctl_window_1 : IC2 RW := .seq (.blk 0 (.seq (.fin (.reg g_bbr_ctl_window_3) [22, 23, 24, 25, 26, 27] []) (.cond (.s 21) (.fin (.reg g_bbr_ctl_window_4) [3, 4, 21, 28, 29, 30, 31, 32, 33, 34, 35] [(96, 8)]) (.seq (.fin (.reg g_bbr_ctl_window_5) [21, 37, 38, 39, 40, 41, 42] []) (.cond (.s 36) (.fin (.reg g_bbr_ctl_window_6) [3, 4, 36, 43, 44, 45, 46, 47, 48] [(96, 8)]) (.seq (.fin (.reg g_bbr_ctl_window_7) [4, 36, 50, 51, 52, 53, 54, 55, 56, 57] []) (.fin (.cond (.s 49) (.fin (.reg g_bbr_ctl_window_8) [3, 49, 58, 59, 60, 61] [(96, 8)]) (.skip)) [3, 49] [(96, 8)]))))))) i_bbr_ctl_window_0
def g_bbr_ctl_window_0 : List (IStep2 RW) := [o1 3 (.box 96 8 false (.s 1))]
def g_bbr_ctl_window_1 : List (IStep2 RW) := [o1 6 (.mv false (.s 0)),
  o1 7 (.ro 1031 [(false, .s 6)] [(73, 22, 18)]),
  o1 8 (.bin .mul (.k (.sc (.int .i64 2))) (.s 7)),
  o1 9 (.mv false (.s 0)),
  o1 10 (.nil (.s 9)),
  o1 11 (.fld 0 (.s 10)),
  o1 12 (.fld 1 (.s 11)),
  o1 13 (.load 73 1 1 false false 12),
  o1 14 (.bin .mul (.k (.sc (.int .i64 4))) (.s 13)),
  o1 15 (.mnmx true [.s 8, .s 14]),
  o1 4 (.mv false (.s 15))]
def g_bbr_ctl_window_2 : List (IStep2 RW) := [o1 16 (.mv false (.s 0)),
  o1 17 (.nil (.s 16)),
  o1 18 (.fld 0 (.s 17)),
  o1 19 (.fld 2 (.s 18)),
  o1 20 (.load 73 2 1 false false 19),
  o1 5 (.mv false (.s 20))]
def i_bbr_ctl_window_2 : IC2 RW := .seq (.fin (.reg g_bbr_ctl_window_0) [1] []) (.seq (.fin (.reg g_bbr_ctl_window_1) [6, 7, 8, 9, 10, 11, 12, 13, 14, 15] []) (.seq (.fin (.reg g_bbr_ctl_window_2) [16, 17, 18, 19, 20] []) i_bbr_ctl_window_1))
def fn_bbr_ctl_window : IFn2 RW := ⟨30, 2, 73, 112, [(73, 22), (96, 8)], [(73, 22)], [], i_bbr_ctl_window_2⟩
def g_bbr_Acked_12 : List (IStep2 RW) := [o1 70 (.mv false (.s 7)),
  o1 71 (.load 107 0 8 true false 3),
  o1 72 (.call 1030 [(false, .s 70), (false, .s 71)] [(139, 22, 62)])]
def g_bbr_Acked_13 : List (IStep2 RW) := [o1 73 (.mv false (.s 7)),
  o1 74 (.load 107 0 8 true false 3),
  o1 75 (.mv false (.s 9)),
  o1 76 (.call 1038 [(false, .s 73), (false, .s 74), (false, .s 75)] [(139, 22, 122)])]
def g_bbr_Acked_14 : List (IStep2 RW) := [o1 77 (.mv false (.s 7)),
  o1 78 (.load 107 0 8 true false 3),
  o1 79 (.call 1039 [(false, .s 77), (false, .s 78)] [(139, 22, 73)])]
def g_bbr_Acked_15 : List (IStep2 RW) := [o1 80 (.mv false (.s 7)),
  o1 81 (.nil (.s 80)),
  o1 82 (.fld 0 (.s 81)),
  o1 83 (.load 139 0 22 true false 82),
  o0 (.store 116 0 22 false 4 (.s 83)),
  o1 5 (.mv false (.k (.sc (.int .i64 0))))]
def i_bbr_Acked_0 : IC2 RW := .seq (.fin (.reg g_bbr_Acked_12) [70, 71, 72] []) (.seq (.fin (.reg g_bbr_Acked_13) [9, 73, 74, 75, 76] []) (.seq (.fin (.reg g_bbr_Acked_14) [3, 77, 78, 79] [(107, 8)]) (.seq (.fin (.reg g_bbr_Acked_15) [7, 80, 81, 82, 83] [(139, 22)]) (.ret))))
def g_bbr_Acked_8 : List (IStep2 RW) := [o1 48 (.mv false (.s 7)),
  o1 49 (.load 107 0 8 true false 3),
  o1 50 (.call 1024 [(false, .s 48), (false, .s 49)] [(139, 22, 74)])]
def g_bbr_Acked_9 : List (IStep2 RW) := [o1 51 (.mv false (.s 7)),
  o1 52 (.load 107 0 8 true false 3),
  o1 53 (.call 1028 [(false, .s 51), (false, .s 52)] [(139, 22, 60)]),
  o1 9 (.mv false (.s 53))]
def g_bbr_Acked_10 : List (IStep2 RW) := [o1 54 (.mv false (.s 8)),
  o2 55 (.mv false (.s 54)),
  o3 56 55 true (.mv false (.s 7)),
  o3 57 55 true (.nil (.s 56)),
  o3 58 55 true (.fld 0 (.s 57)),
  o3 59 55 true (.fld 10 (.s 58)),
  o3 60 55 true (.load 139 10 1 false false 59),
  o3 61 55 true (.bin .eql (.s 60) (.k (.sc (.int .i64 1)))),
  o1 62 (.pick (.s 55) (.s 61) (.k (.sc (.bool false)))),
  o2 63 (.mv false (.s 62)),
  o3 64 63 true (.fld 4 (.s 3)),
  o3 65 63 true (.load 107 4 1 false false 64),
  o3 66 63 true (.un .not (.s 65)),
  o1 67 (.pick (.s 63) (.s 66) (.k (.sc (.bool false))))]
def g_bbr_Acked_11 : List (IStep2 RW) := [o1 68 (.mv false (.s 7)),
  o1 69 (.call 1029 [(false, .s 68)] [(139, 22, 48)])]
def i_bbr_Acked_1 : IC2 RW := .seq (.fin (.reg g_bbr_Acked_8) [48, 49, 50] []) (.seq (.fin (.reg g_bbr_Acked_9) [51, 52, 53] []) (.seq (.seq (.fin (.reg g_bbr_Acked_10) [8, 54, 55, 56, 57, 58, 59, 60, 61, 62, 63, 64, 65, 66] []) (.fin (.cond (.s 67) (.fin (.reg g_bbr_Acked_11) [67, 68, 69] []) (.skip)) [67] [])) i_bbr_Acked_0))
def g_bbr_Acked_0 : List (IStep2 RW) := [o1 2 (.box 84 22 false (.s 0)),
  o1 3 (.box 107 8 false (.s 1)),
  o1 4 (.alloc 116 [.sc (.int .i64 0), .sc (.int .i64 0), .sc (.int .i64 0), .sc (.int .i64 0), .sc (.int .i64 0), .sc (.int .i64 0), .sc (.int .i64 0), .sc (.int .i64 0), .sc (.int .i64 0), .sc (.int .i64 0), .sc (.int .i64 0), .row false (.rEntry []), .sc (.int .i64 0), .sc (.int .i64 0), .sc (.int .i64 0), .sc (.int .i64 0), .sc (.int .i64 0), .sc (.int .i64 0), .sc (.int .i64 0), .sc (.int .i64 0), .sc (.int .i64 0), .sc (.int .i64 0)]),
  o1 5 (.mv false (.k (.sc (.int .i64 0))))]
def g_bbr_Acked_1 : List (IStep2 RW) := [o1 10 (.load 84 0 22 true false 2),
  o1 11 (.call 12 [(false, .s 10)] []),
  o1 6 (.mv false (.s 11))]
def g_bbr_Acked_2 : List (IStep2 RW) := [o1 12 (.mv false (.s 6)),
  o1 13 (.bin .neq (.s 12) (.k (.sc (.int .i64 0))))]
def g_bbr_Acked_3 : List (IStep2 RW) := [o1 14 (.build [.sc (.int .i64 0), .sc (.int .i64 0), .sc (.int .i64 0), .sc (.int .i64 0), .sc (.int .i64 0), .sc (.int .i64 0), .sc (.int .i64 0), .sc (.int .i64 0), .sc (.int .i64 0), .sc (.int .i64 0), .sc (.int .i64 0), .row false (.rEntry []), .sc (.int .i64 0), .sc (.int .i64 0), .sc (.int .i64 0), .sc (.int .i64 0), .sc (.int .i64 0), .sc (.int .i64 0), .sc (.int .i64 0), .sc (.int .i64 0), .sc (.int .i64 0), .sc (.int .i64 0)] []),
  o1 15 (.mv false (.s 6)),
  o0 (.store 116 0 22 false 4 (.s 14)),
  o1 5 (.mv false (.s 15))]
def g_bbr_Acked_4 : List (IStep2 RW) := [o1 16 (.fld 0 (.s 3)),
  o1 17 (.load 107 0 1 false false 16),
  o1 18 (.fld 5 (.s 3)),
  o1 19 (.load 107 5 1 false false 18),
  o1 20 (.fld 6 (.s 3)),
  o1 21 (.load 107 6 1 false false 20),
  o1 22 (.fld 2 (.s 3)),
  o1 23 (.load 107 2 1 false false 22),
  o1 24 (.bslice 3 4 [(0, 1, .s 17), (1, 1, .s 19), (2, 1, .s 21), (3, 1, .s 23)]),
  o1 25 (.call 17 [(false, .k (.sc (.int .i64 1125899906842624))), (false, .s 24)] []),
  o1 26 (.un .not (.s 25)),
  o2 27 (.mv false (.s 26)),
  o3 28 27 false (.fld 1 (.s 3)),
  o3 29 27 false (.load 107 1 1 false false 28),
  o3 30 27 false (.fld 7 (.s 3)),
  o3 31 27 false (.load 107 7 1 false false 30),
  o3 32 27 false (.bslice 3 2 [(0, 1, .s 29), (1, 1, .s 31)]),
  o3 33 27 false (.call 17 [(false, .k (.sc (.int .i64 1073741824))), (false, .s 32)] []),
  o3 34 27 false (.un .not (.s 33)),
  o1 35 (.pick (.s 27) (.k (.sc (.bool true))) (.s 34)),
  o2 36 (.mv false (.s 35)),
  o3 37 36 false (.fld 3 (.s 3)),
  o3 38 36 false (.load 107 3 1 false false 37),
  o3 39 36 false (.bin .lss (.s 38) (.k (.sc (.int .i64 0)))),
  o1 40 (.pick (.s 36) (.k (.sc (.bool true))) (.s 39))]
def g_bbr_Acked_5 : List (IStep2 RW) := [o1 41 (.build [.sc (.int .i64 0), .sc (.int .i64 0), .sc (.int .i64 0), .sc (.int .i64 0), .sc (.int .i64 0), .sc (.int .i64 0), .sc (.int .i64 0), .sc (.int .i64 0), .sc (.int .i64 0), .sc (.int .i64 0), .sc (.int .i64 0), .row false (.rEntry []), .sc (.int .i64 0), .sc (.int .i64 0), .sc (.int .i64 0), .sc (.int .i64 0), .sc (.int .i64 0), .sc (.int .i64 0), .sc (.int .i64 0), .sc (.int .i64 0), .sc (.int .i64 0), .sc (.int .i64 0)] []),
  o0 (.store 116 0 22 false 4 (.s 41)),
  o1 5 (.mv false (.k (.sc (.int .i64 2))))]
def g_bbr_Acked_6 : List (IStep2 RW) := [o1 42 (.load 84 0 22 true false 2),
  o1 43 (.build [.sc (.int .i64 0), .sc (.int .i64 0), .sc (.int .i64 0), .sc (.int .i64 0), .sc (.int .i64 0), .sc (.int .i64 0), .sc (.int .i64 0), .sc (.int .i64 0), .sc (.int .i64 0), .sc (.int .i64 0), .sc (.int .i64 0), .row false (.rEntry []), .sc (.int .i64 0), .sc (.int .i64 0), .sc (.int .i64 0), .sc (.int .i64 0), .sc (.int .i64 0), .sc (.int .i64 0), .sc (.int .i64 0), .sc (.int .i64 0), .sc (.int .i64 0), .sc (.int .i64 0)] [(0, 22, .s 42)]),
  o1 44 (.box 139 22 false (.s 43)),
  o1 7 (.mv false (.s 44))]
def g_bbr_Acked_7 : List (IStep2 RW) := [o1 45 (.mv false (.s 7)),
  o1 46 (.load 107 0 8 true false 3),
  o1 47 (.call 1023 [(false, .s 45), (false, .s 46)] [(139, 22, 30)]),
  o1 8 (.mv false (.s 47))]
def i_bbr_Acked_2 : IC2 RW := .seq (.fin (.reg g_bbr_Acked_0) [0, 1, 5] []) (.seq (.seq (.fin (.reg g_bbr_Acked_1) [10, 11] []) (.seq (.fin (.reg g_bbr_Acked_2) [12] []) (.fin (.cond (.s 13) (.seq (.fin (.reg g_bbr_Acked_3) [2, 3, 6, 13, 14, 15] [(84, 22), (107, 8)]) (.ret)) (.skip)) [6, 13] []))) (.seq (.seq (.fin (.reg g_bbr_Acked_4) [16, 17, 18, 19, 20, 21, 22, 23, 24, 25, 26, 27, 28, 29, 30, 31, 32, 33, 34, 35, 36, 37, 38, 39] []) (.fin (.cond (.s 40) (.seq (.fin (.reg g_bbr_Acked_5) [2, 3, 40, 41] [(84, 22), (107, 8)]) (.ret)) (.skip)) [40] [])) (.seq (.fin (.reg g_bbr_Acked_6) [2, 42, 43, 44] [(84, 22)]) (.seq (.fin (.reg g_bbr_Acked_7) [45, 46, 47] []) i_bbr_Acked_1))))
def fn_bbr_Acked : IFn2 RW := ⟨14, 2, 84, 176, [(84, 22), (107, 8), (116, 22), (139, 22)], [], [.cell 4 116 22 true, .slot 5], i_bbr_Acked_2⟩
def g_bbr_Bandwidth_0 : List (IStep2 RW) := [o1 1 (.box 10 22 false (.s 0)),
  o1 2 (.mv false (.k (.sc (.int .i64 0))))]
def g_bbr_Bandwidth_1 : List (IStep2 RW) := [o1 3 (.load 10 0 22 true false 1),
  o1 4 (.call 12 [(false, .s 3)] []),
  o1 5 (.bin .neq (.s 4) (.k (.sc (.int .i64 0))))]
def g_bbr_Bandwidth_2 : List (IStep2 RW) := [o1 2 (.mv false (.k (.sc (.int .i64 0))))]
def g_bbr_Bandwidth_3 : List (IStep2 RW) := [o1 6 (.load 10 0 22 true false 1),
  o1 7 (.build [.sc (.int .i64 0), .sc (.int .i64 0), .sc (.int .i64 0), .sc (.int .i64 0), .sc (.int .i64 0), .sc (.int .i64 0), .sc (.int .i64 0), .sc (.int .i64 0), .sc (.int .i64 0), .sc (.int .i64 0), .sc (.int .i64 0), .row false (.rEntry []), .sc (.int .i64 0), .sc (.int .i64 0), .sc (.int .i64 0), .sc (.int .i64 0), .sc (.int .i64 0), .sc (.int .i64 0), .sc (.int .i64 0), .sc (.int .i64 0), .sc (.int .i64 0), .sc (.int .i64 0)] [(0, 22, .s 6)]),
  o1 8 (.box 33 22 false (.s 7)),
  o1 9 (.ro 1025 [(false, .s 8)] [(33, 22, 15)]),
  o1 2 (.mv false (.s 9))]
def i_bbr_Bandwidth_0 : IC2 RW := .seq (.fin (.reg g_bbr_Bandwidth_0) [0, 2] []) (.seq (.seq (.fin (.reg g_bbr_Bandwidth_1) [3, 4] []) (.fin (.cond (.s 5) (.seq (.fin (.reg g_bbr_Bandwidth_2) [1, 5] [(10, 22)]) (.ret)) (.skip)) [5] [])) (.seq (.fin (.reg g_bbr_Bandwidth_3) [1, 6, 7, 8, 9] [(10, 22), (33, 22)]) (.ret)))
def fn_bbr_Bandwidth : IFn2 RW := ⟨15, 1, 10, 64, [(10, 22), (33, 22)], [], [.slot 2], i_bbr_Bandwidth_0⟩
def g_bbr_Product_0 : List (IStep2 RW) := [o1 1 (.box 10 22 false (.s 0)),
  o1 2 (.mv false (.k (.sc (.int .i64 0))))]
def g_bbr_Product_1 : List (IStep2 RW) := [o1 3 (.load 10 0 22 true false 1),
  o1 4 (.call 12 [(false, .s 3)] []),
  o1 5 (.bin .neq (.s 4) (.k (.sc (.int .i64 0))))]
def g_bbr_Product_2 : List (IStep2 RW) := [o1 2 (.mv false (.k (.sc (.int .i64 0))))]
def g_bbr_Product_3 : List (IStep2 RW) := [o1 6 (.load 10 0 22 true false 1),
  o1 7 (.build [.sc (.int .i64 0), .sc (.int .i64 0), .sc (.int .i64 0), .sc (.int .i64 0), .sc (.int .i64 0), .sc (.int .i64 0), .sc (.int .i64 0), .sc (.int .i64 0), .sc (.int .i64 0), .sc (.int .i64 0), .sc (.int .i64 0), .row false (.rEntry []), .sc (.int .i64 0), .sc (.int .i64 0), .sc (.int .i64 0), .sc (.int .i64 0), .sc (.int .i64 0), .sc (.int .i64 0), .sc (.int .i64 0), .sc (.int .i64 0), .sc (.int .i64 0), .sc (.int .i64 0)] [(0, 22, .s 6)]),
  o1 8 (.box 33 22 false (.s 7)),
  o1 9 (.ro 1031 [(false, .s 8)] [(33, 22, 18)]),
  o1 2 (.mv false (.s 9))]
def i_bbr_Product_0 : IC2 RW := .seq (.fin (.reg g_bbr_Product_0) [0, 2] []) (.seq (.seq (.fin (.reg g_bbr_Product_1) [3, 4] []) (.fin (.cond (.s 5) (.seq (.fin (.reg g_bbr_Product_2) [1, 5] [(10, 22)]) (.ret)) (.skip)) [5] [])) (.seq (.fin (.reg g_bbr_Product_3) [1, 6, 7, 8, 9] [(10, 22), (33, 22)]) (.ret)))
def fn_bbr_Product : IFn2 RW := ⟨16, 1, 10, 64, [(10, 22), (33, 22)], [], [.slot 2], i_bbr_Product_0⟩
def g_bbr_Gain_0 : List (IStep2 RW) := [o1 1 (.box 32 22 false (.s 0)),
  o1 2 (.mv false (.k (.sc (.int .i64 0))))]
def g_bbr_Gain_1 : List (IStep2 RW) := [o1 3 (.load 32 0 22 true false 1),
  o1 4 (.call 12 [(false, .s 3)] []),
  o1 5 (.bin .neq (.s 4) (.k (.sc (.int .i64 0))))]
def g_bbr_Gain_2 : List (IStep2 RW) := [o1 2 (.mv false (.k (.sc (.int .i64 0))))]
def g_bbr_Gain_3 : List (IStep2 RW) := [o1 7 (.fld 10 (.s 1)),
  o1 8 (.load 32 10 1 false false 7),
  o1 9 (.bin .eql (.s 8) (.k (.sc (.int .i64 1)))),
  o1 6 (.mv false (.s 9))]
def g_bbr_Gain_4 : List (IStep2 RW) := [o1 2 (.mv false (.k (.sc (.int .i64 289))))]
def g_bbr_Gain_5 : List (IStep2 RW) := [o1 11 (.fld 10 (.s 1)),
  o1 12 (.load 32 10 1 false false 11),
  o1 13 (.bin .eql (.s 12) (.k (.sc (.int .i64 2)))),
  o1 10 (.mv false (.s 13))]
def g_bbr_Gain_6 : List (IStep2 RW) := [o1 2 (.mv false (.k (.sc (.int .i64 35))))]
def g_bbr_Gain_7 : List (IStep2 RW) := [o1 15 (.fld 10 (.s 1)),
  o1 16 (.load 32 10 1 false false 15),
  o1 17 (.bin .eql (.s 16) (.k (.sc (.int .i64 3)))),
  o2 18 (.mv false (.s 17)),
  o3 19 18 true (.fld 18 (.s 1)),
  o3 20 18 true (.load 32 18 1 false false 19),
  o3 21 18 true (.bin .eql (.s 20) (.k (.sc (.int .i64 0)))),
  o1 22 (.pick (.s 18) (.s 21) (.k (.sc (.bool false)))),
  o1 14 (.mv false (.s 22))]
def g_bbr_Gain_8 : List (IStep2 RW) := [o1 2 (.mv false (.k (.sc (.int .i64 125))))]
def g_bbr_Gain_9 : List (IStep2 RW) := [o1 24 (.fld 10 (.s 1)),
  o1 25 (.load 32 10 1 false false 24),
  o1 26 (.bin .eql (.s 25) (.k (.sc (.int .i64 3)))),
  o2 27 (.mv false (.s 26)),
  o3 28 27 true (.fld 18 (.s 1)),
  o3 29 27 true (.load 32 18 1 false false 28),
  o3 30 27 true (.bin .eql (.s 29) (.k (.sc (.int .i64 1)))),
  o1 31 (.pick (.s 27) (.s 30) (.k (.sc (.bool false)))),
  o1 23 (.mv false (.s 31))]
def g_bbr_Gain_10 : List (IStep2 RW) := [o1 2 (.mv false (.k (.sc (.int .i64 75))))]
def g_bbr_Gain_11 : List (IStep2 RW) := [o1 2 (.mv false (.k (.sc (.int .i64 100))))]
def i_bbr_Gain_0 : IC2 RW := .seq (.fin (.reg g_bbr_Gain_0) [0, 2] []) (.seq (.seq (.fin (.reg g_bbr_Gain_1) [3, 4] []) (.fin (.cond (.s 5) (.seq (.fin (.reg g_bbr_Gain_2) [1, 5] [(32, 22)]) (.ret)) (.skip)) [5] [])) (.seq (.blk 0 (.seq (.fin (.reg g_bbr_Gain_3) [7, 8, 9] []) (.cond (.s 6) (.seq (.fin (.reg g_bbr_Gain_4) [1, 6] [(32, 22)]) (.ret)) (.seq (.fin (.reg g_bbr_Gain_5) [6, 11, 12, 13] []) (.cond (.s 10) (.seq (.fin (.reg g_bbr_Gain_6) [1, 10] [(32, 22)]) (.ret)) (.seq (.fin (.reg g_bbr_Gain_7) [10, 15, 16, 17, 18, 19, 20, 21, 22] []) (.cond (.s 14) (.seq (.fin (.reg g_bbr_Gain_8) [1, 14] [(32, 22)]) (.ret)) (.seq (.fin (.reg g_bbr_Gain_9) [1, 14, 24, 25, 26, 27, 28, 29, 30, 31] [(32, 22)]) (.fin (.cond (.s 23) (.seq (.fin (.reg g_bbr_Gain_10) [23] []) (.ret)) (.skip)) [23] []))))))))) (.seq (.reg g_bbr_Gain_11) (.ret))))
def fn_bbr_Gain : IFn2 RW := ⟨23, 1, 32, 64, [(32, 22)], [], [.slot 2], i_bbr_Gain_0⟩
def g_law18_heads_5 : List (IStep2 RW) := [o1 31 (.build [.sc (.int .i64 0), .sc (.int .i64 0), .sc (.int .i64 0), .sc (.int .i64 0), .sc (.int .i64 0), .sc (.int .i64 0), .sc (.int .i64 0), .sc (.int .i64 0), .sc (.int .i64 0), .sc (.int .i64 0), .sc (.int .i64 0), .row false (.rEntry []), .sc (.int .i64 0), .sc (.int .i64 0), .sc (.int .i64 0), .sc (.int .i64 0), .sc (.int .i64 0), .sc (.int .i64 0), .sc (.int .i64 0), .sc (.int .i64 0), .sc (.int .i64 0), .sc (.int .i64 0)] []),
  o1 32 (.build [.sc (.int .i64 0), .sc (.int .i64 0), .sc (.int .i64 0), .sc (.int .i64 0), .sc (.bool false), .sc (.int .i64 0), .sc (.int .i64 0), .sc (.int .i64 0)] []),
  o1 33 (.call 14 [(false, .s 31), (false, .s 32)] []),
  o1 30 (.mv false (.s 33)),
  o1 34 (.ext false 0 (.s 30)),
  o1 35 (.ext false 1 (.s 30)),
  o1 9 (.alloc 171 [.sc (.int .i64 0), .sc (.int .i64 0), .sc (.int .i64 0), .sc (.int .i64 0), .sc (.int .i64 0), .sc (.int .i64 0), .sc (.int .i64 0), .sc (.int .i64 0), .sc (.int .i64 0), .sc (.int .i64 0), .sc (.int .i64 0), .row false (.rEntry []), .sc (.int .i64 0), .sc (.int .i64 0), .sc (.int .i64 0), .sc (.int .i64 0), .sc (.int .i64 0), .sc (.int .i64 0), .sc (.int .i64 0), .sc (.int .i64 0), .sc (.int .i64 0), .sc (.int .i64 0)]),
  o0 (.store 171 0 22 false 9 (.s 34)),
  o1 10 (.mv false (.s 35))]
def g_law18_heads_6 : List (IStep2 RW) := [o1 36 (.mv false (.s 2)),
  o1 37 (.bin .eql (.s 36) (.k (.sc (.int .i64 0)))),
  o2 38 (.mv false (.s 37)),
  o3 39 38 true (.mv false (.s 4)),
  o3 40 38 true (.bin .eql (.s 39) (.k (.sc (.int .i64 0)))),
  o1 41 (.pick (.s 38) (.s 40) (.k (.sc (.bool false)))),
  o2 42 (.mv false (.s 41)),
  o3 43 42 true (.load 102 0 22 true false 3),
  o3 44 42 true (.call 15 [(false, .s 43)] []),
  o3 45 42 true (.bin .eql (.s 44) (.k (.sc (.int .i64 1000000)))),
  o1 46 (.pick (.s 42) (.s 45) (.k (.sc (.bool false)))),
  o2 47 (.mv false (.s 46)),
  o3 48 47 true (.load 102 0 22 true false 3),
  o3 49 47 true (.call 16 [(false, .s 48)] []),
  o3 50 47 true (.bin .eql (.s 49) (.k (.sc (.int .i64 100000)))),
  o1 51 (.pick (.s 47) (.s 50) (.k (.sc (.bool false)))),
  o2 52 (.mv false (.s 51)),
  o3 53 52 true (.load 102 0 22 true false 3),
  o3 54 52 true (.call 23 [(false, .s 53)] []),
  o3 55 52 true (.bin .eql (.s 54) (.k (.sc (.int .i64 289)))),
  o1 56 (.pick (.s 52) (.s 55) (.k (.sc (.bool false)))),
  o2 57 (.mv false (.s 56)),
  o3 58 57 true (.fld 14 (.s 3)),
  o3 59 57 true (.load 102 14 1 false false 58),
  o3 60 57 true (.bin .eql (.s 59) (.k (.sc (.int .i64 1)))),
  o1 61 (.pick (.s 57) (.s 60) (.k (.sc (.bool false)))),
  o2 62 (.mv false (.s 61)),
  o3 63 62 true (.mv false (.s 6)),
  o3 64 62 true (.bin .eql (.s 63) (.k (.sc (.int .i64 0)))),
  o1 65 (.pick (.s 62) (.s 64) (.k (.sc (.bool false)))),
  o2 66 (.mv false (.s 65)),
  o3 67 66 true (.fld 2 (.s 5)),
  o3 68 66 true (.load 125 2 1 false false 67),
  o3 69 66 true (.bin .eql (.s 68) (.k (.sc (.int .i64 10)))),
  o1 70 (.pick (.s 66) (.s 69) (.k (.sc (.bool false)))),
  o2 71 (.mv false (.s 70)),
  o3 72 71 true (.mv false (.s 8)),
  o3 73 71 true (.bin .eql (.s 72) (.k (.sc (.int .i64 2)))),
  o1 74 (.pick (.s 71) (.s 73) (.k (.sc (.bool false)))),
  o2 75 (.mv false (.s 74)),
  o3 76 75 true (.mv false (.s 10)),
  o3 77 75 true (.bin .eql (.s 76) (.k (.sc (.int .i64 230)))),
  o1 78 (.pick (.s 75) (.s 77) (.k (.sc (.bool false)))),
  o1 0 (.mv false (.s 78))]
def i_law18_heads_0 : IC2 RW := .seq (.fin (.reg g_law18_heads_5) [9, 30, 31, 32, 33, 34, 35] [(171, 22)]) (.seq (.fin (.reg g_law18_heads_6) [2, 3, 4, 5, 6, 8, 10, 36, 37, 38, 39, 40, 41, 42, 43, 44, 45, 46, 47, 48, 49, 50, 51, 52, 53, 54, 55, 56, 57, 58, 59, 60, 61, 62, 63, 64, 65, 66, 67, 68, 69, 70, 71, 72, 73, 74, 75, 76, 77, 78] [(102, 22), (125, 22)]) (.ret))
def g_law18_heads_0 : List (IStep2 RW) := [o1 0 (.mv false (.k (.sc (.bool false))))]
def g_law18_heads_1 : List (IStep2 RW) := [o1 12 (.call 9 [(false, .k (.sc (.int .i64 10))), (false, .k (.sc (.int .i64 4)))] []),
  o1 11 (.mv false (.s 12)),
  o1 13 (.ext false 0 (.s 11)),
  o1 14 (.ext false 1 (.s 11)),
  o1 1 (.alloc 79 [.sc (.int .i64 0), .sc (.int .i64 0), .sc (.int .i64 0), .sc (.int .i64 0), .sc (.int .i64 0), .sc (.int .i64 0), .sc (.int .i64 0), .sc (.int .i64 0), .sc (.int .i64 0), .sc (.int .i64 0), .sc (.int .i64 0), .row false (.rEntry []), .sc (.int .i64 0), .sc (.int .i64 0), .sc (.int .i64 0), .sc (.int .i64 0), .sc (.int .i64 0), .sc (.int .i64 0), .sc (.int .i64 0), .sc (.int .i64 0), .sc (.int .i64 0), .sc (.int .i64 0)]),
  o0 (.store 79 0 22 false 1 (.s 13)),
  o1 2 (.mv false (.s 14))]
def g_law18_heads_2 : List (IStep2 RW) := [o1 16 (.load 79 0 22 true false 1),
  o1 17 (.build [.sc (.int .i64 0), .sc (.int .i64 0), .sc (.int .i64 0), .sc (.int .i64 0), .sc (.bool false), .sc (.int .i64 0), .sc (.int .i64 0), .sc (.int .i64 0)] [(0, 1, .k (.sc (.int .i64 100000))), (1, 1, .k (.sc (.int .i64 10))), (2, 1, .k (.sc (.int .i64 100000))), (3, 1, .k (.sc (.int .i64 1000000))), (5, 1, .k (.sc (.int .i64 10))), (7, 1, .k (.sc (.int .i64 30)))]),
  o1 18 (.call 14 [(false, .s 16), (false, .s 17)] []),
  o1 15 (.mv false (.s 18)),
  o1 19 (.ext false 0 (.s 15)),
  o1 20 (.ext false 1 (.s 15)),
  o1 3 (.alloc 102 [.sc (.int .i64 0), .sc (.int .i64 0), .sc (.int .i64 0), .sc (.int .i64 0), .sc (.int .i64 0), .sc (.int .i64 0), .sc (.int .i64 0), .sc (.int .i64 0), .sc (.int .i64 0), .sc (.int .i64 0), .sc (.int .i64 0), .row false (.rEntry []), .sc (.int .i64 0), .sc (.int .i64 0), .sc (.int .i64 0), .sc (.int .i64 0), .sc (.int .i64 0), .sc (.int .i64 0), .sc (.int .i64 0), .sc (.int .i64 0), .sc (.int .i64 0), .sc (.int .i64 0)]),
  o0 (.store 102 0 22 false 3 (.s 19)),
  o1 4 (.mv false (.s 20))]
def g_law18_heads_3 : List (IStep2 RW) := [o1 22 (.load 102 0 22 true false 3),
  o1 23 (.call 7 [(false, .s 22), (false, .k (.sc (.int .i64 5)))] []),
  o1 21 (.mv false (.s 23)),
  o1 24 (.ext false 0 (.s 21)),
  o1 25 (.ext false 1 (.s 21)),
  o1 5 (.alloc 125 [.sc (.int .i64 0), .sc (.int .i64 0), .sc (.int .i64 0), .sc (.int .i64 0), .sc (.int .i64 0), .sc (.int .i64 0), .sc (.int .i64 0), .sc (.int .i64 0), .sc (.int .i64 0), .sc (.int .i64 0), .sc (.int .i64 0), .row false (.rEntry []), .sc (.int .i64 0), .sc (.int .i64 0), .sc (.int .i64 0), .sc (.int .i64 0), .sc (.int .i64 0), .sc (.int .i64 0), .sc (.int .i64 0), .sc (.int .i64 0), .sc (.int .i64 0), .sc (.int .i64 0)]),
  o0 (.store 125 0 22 false 5 (.s 24)),
  o1 6 (.mv false (.s 25))]
def g_law18_heads_4 : List (IStep2 RW) := [o1 27 (.call 9 [(false, .k (.sc (.int .i64 0))), (false, .k (.sc (.int .i64 1)))] []),
  o1 26 (.mv false (.s 27)),
  o1 28 (.ext false 0 (.s 26)),
  o1 29 (.ext false 1 (.s 26)),
  o1 7 (.alloc 148 [.sc (.int .i64 0), .sc (.int .i64 0), .sc (.int .i64 0), .sc (.int .i64 0), .sc (.int .i64 0), .sc (.int .i64 0), .sc (.int .i64 0), .sc (.int .i64 0), .sc (.int .i64 0), .sc (.int .i64 0), .sc (.int .i64 0), .row false (.rEntry []), .sc (.int .i64 0), .sc (.int .i64 0), .sc (.int .i64 0), .sc (.int .i64 0), .sc (.int .i64 0), .sc (.int .i64 0), .sc (.int .i64 0), .sc (.int .i64 0), .sc (.int .i64 0), .sc (.int .i64 0)]),
  o0 (.store 148 0 22 false 7 (.s 28)),
  o1 8 (.mv false (.s 29))]
def i_law18_heads_1 : IC2 RW := .seq (.fin (.reg g_law18_heads_0) [0] []) (.seq (.fin (.reg g_law18_heads_1) [11, 12, 13, 14] []) (.seq (.fin (.reg g_law18_heads_2) [1, 15, 16, 17, 18, 19, 20] [(79, 22)]) (.seq (.fin (.reg g_law18_heads_3) [21, 22, 23, 24, 25] []) (.seq (.fin (.reg g_law18_heads_4) [7, 26, 27, 28, 29] [(148, 22)]) i_law18_heads_0))))
def fn_law18_heads : IFn2 RW := ⟨13, 0, 79, 208, [(79, 22), (102, 22), (125, 22), (148, 22), (171, 22)], [], [.slot 0], i_law18_heads_1⟩
def g_law18_BbrFalls_5 : List (IStep2 RW) := [o1 39 (.load 92 0 22 true false 7),
  o1 40 (.load 115 0 22 true false 9),
  o1 41 (.call 11 [(false, .s 39), (false, .s 40)] []),
  o2 42 (.mv false (.s 41)),
  o3 43 42 true (.mv false (.s 8)),
  o3 44 42 true (.mv false (.s 10)),
  o3 45 42 true (.bin .eql (.s 43) (.s 44)),
  o1 46 (.pick (.s 42) (.s 45) (.k (.sc (.bool false)))),
  o2 47 (.mv false (.s 46)),
  o3 48 47 true (.load 138 0 22 true false 11),
  o3 49 47 true (.load 161 0 22 true false 13),
  o3 50 47 true (.call 11 [(false, .s 48), (false, .s 49)] []),
  o1 51 (.pick (.s 47) (.s 50) (.k (.sc (.bool false)))),
  o2 52 (.mv false (.s 51)),
  o3 53 52 true (.mv false (.s 12)),
  o3 54 52 true (.mv false (.s 14)),
  o3 55 52 true (.bin .eql (.s 53) (.s 54)),
  o1 56 (.pick (.s 52) (.s 55) (.k (.sc (.bool false)))),
  o2 57 (.mv false (.s 56)),
  o3 58 57 true (.mv false (.s 12)),
  o3 59 57 true (.bin .neq (.s 58) (.k (.sc (.int .i64 0)))),
  ⟨some 60, .mv false (.s 59), (some (57, true)), true⟩,
  o3 61 60 false (.load 138 0 22 true false 11),
  o3 62 60 false (.call 12 [(false, .s 61)] []),
  o3 63 60 false (.bin .eql (.s 62) (.k (.sc (.int .i64 0)))),
  o3 64 57 true (.pick (.s 60) (.k (.sc (.bool true))) (.s 63)),
  o1 65 (.pick (.s 57) (.s 64) (.k (.sc (.bool false)))),
  o2 66 (.mv false (.s 65)),
  o3 67 66 true (.call 13 [] []),
  o1 68 (.pick (.s 66) (.s 67) (.k (.sc (.bool false)))),
  o1 6 (.mv false (.s 68))]
def i_law18_BbrFalls_0 : IC2 RW := .fin (.reg g_law18_BbrFalls_5) [7, 8, 9, 10, 11, 12, 13, 14, 39, 40, 41, 42, 43, 44, 45, 46, 47, 48, 49, 50, 51, 52, 53, 54, 55, 56, 57, 58, 59, 60, 61, 62, 63, 64, 65, 66, 67, 68] [(92, 22), (115, 22), (138, 22), (161, 22)]
def i_law18_BbrFalls_1 : IC2 RW := .ret
def i_law18_BbrFalls_2 : IC2 RW := .seq i_law18_BbrFalls_0 i_law18_BbrFalls_1
def g_law18_BbrFalls_0 : List (IStep2 RW) := [o1 3 (.box 69 22 false (.s 0)),
  o1 6 (.mv false (.k (.sc (.bool false))))]
def g_law18_BbrFalls_1 : List (IStep2 RW) := [o1 16 (.load 69 0 22 true false 3),
  o1 17 (.mv false (.s 1)),
  o1 18 (.call 7 [(false, .s 16), (false, .s 17)] []),
  o1 15 (.mv false (.s 18)),
  o1 19 (.ext false 0 (.s 15)),
  o1 20 (.ext false 1 (.s 15)),
  o1 7 (.alloc 92 [.sc (.int .i64 0), .sc (.int .i64 0), .sc (.int .i64 0), .sc (.int .i64 0), .sc (.int .i64 0), .sc (.int .i64 0), .sc (.int .i64 0), .sc (.int .i64 0), .sc (.int .i64 0), .sc (.int .i64 0), .sc (.int .i64 0), .row false (.rEntry []), .sc (.int .i64 0), .sc (.int .i64 0), .sc (.int .i64 0), .sc (.int .i64 0), .sc (.int .i64 0), .sc (.int .i64 0), .sc (.int .i64 0), .sc (.int .i64 0), .sc (.int .i64 0), .sc (.int .i64 0)]),
  o0 (.store 92 0 22 false 7 (.s 19)),
  o1 8 (.mv false (.s 20))]
def g_law18_BbrFalls_2 : List (IStep2 RW) := [o1 22 (.load 69 0 22 true false 3),
  o1 23 (.mv false (.s 1)),
  o1 24 (.call 8 [(false, .s 22), (false, .s 23)] []),
  o1 21 (.mv false (.s 24)),
  o1 25 (.ext false 0 (.s 21)),
  o1 26 (.ext false 1 (.s 21)),
  o1 9 (.alloc 115 [.sc (.int .i64 0), .sc (.int .i64 0), .sc (.int .i64 0), .sc (.int .i64 0), .sc (.int .i64 0), .sc (.int .i64 0), .sc (.int .i64 0), .sc (.int .i64 0), .sc (.int .i64 0), .sc (.int .i64 0), .sc (.int .i64 0), .row false (.rEntry []), .sc (.int .i64 0), .sc (.int .i64 0), .sc (.int .i64 0), .sc (.int .i64 0), .sc (.int .i64 0), .sc (.int .i64 0), .sc (.int .i64 0), .sc (.int .i64 0), .sc (.int .i64 0), .sc (.int .i64 0)]),
  o0 (.store 115 0 22 false 9 (.s 25)),
  o1 10 (.mv false (.s 26))]
def g_law18_BbrFalls_3 : List (IStep2 RW) := [o1 28 (.mv false (.s 1)),
  o1 29 (.mv false (.s 2)),
  o1 30 (.call 9 [(false, .s 28), (false, .s 29)] []),
  o1 27 (.mv false (.s 30)),
  o1 31 (.ext false 0 (.s 27)),
  o1 32 (.ext false 1 (.s 27)),
  o1 11 (.alloc 138 [.sc (.int .i64 0), .sc (.int .i64 0), .sc (.int .i64 0), .sc (.int .i64 0), .sc (.int .i64 0), .sc (.int .i64 0), .sc (.int .i64 0), .sc (.int .i64 0), .sc (.int .i64 0), .sc (.int .i64 0), .sc (.int .i64 0), .row false (.rEntry []), .sc (.int .i64 0), .sc (.int .i64 0), .sc (.int .i64 0), .sc (.int .i64 0), .sc (.int .i64 0), .sc (.int .i64 0), .sc (.int .i64 0), .sc (.int .i64 0), .sc (.int .i64 0), .sc (.int .i64 0)]),
  o0 (.store 138 0 22 false 11 (.s 31)),
  o1 12 (.mv false (.s 32))]
def g_law18_BbrFalls_4 : List (IStep2 RW) := [o1 34 (.mv false (.s 1)),
  o1 35 (.mv false (.s 2)),
  o1 36 (.call 10 [(false, .s 34), (false, .s 35)] []),
  o1 33 (.mv false (.s 36)),
  o1 37 (.ext false 0 (.s 33)),
  o1 38 (.ext false 1 (.s 33)),
  o1 13 (.alloc 161 [.sc (.int .i64 0), .sc (.int .i64 0), .sc (.int .i64 0), .sc (.int .i64 0), .sc (.int .i64 0), .sc (.int .i64 0), .sc (.int .i64 0), .sc (.int .i64 0), .sc (.int .i64 0), .sc (.int .i64 0), .sc (.int .i64 0), .row false (.rEntry []), .sc (.int .i64 0), .sc (.int .i64 0), .sc (.int .i64 0), .sc (.int .i64 0), .sc (.int .i64 0), .sc (.int .i64 0), .sc (.int .i64 0), .sc (.int .i64 0), .sc (.int .i64 0), .sc (.int .i64 0)]),
  o0 (.store 161 0 22 false 13 (.s 37)),
  o1 14 (.mv false (.s 38))]
def i_law18_BbrFalls_3 : IC2 RW := .seq (.fin (.reg g_law18_BbrFalls_0) [0, 6] []) (.seq (.fin (.reg g_law18_BbrFalls_1) [15, 16, 17, 18, 19, 20] []) (.seq (.fin (.reg g_law18_BbrFalls_2) [3, 21, 22, 23, 24, 25, 26] [(69, 22)]) (.seq (.fin (.reg g_law18_BbrFalls_3) [27, 28, 29, 30, 31, 32] []) (.seq (.fin (.reg g_law18_BbrFalls_4) [1, 2, 33, 34, 35, 36, 37, 38] []) i_law18_BbrFalls_2))))
def fn_law18_BbrFalls : IFn2 RW := ⟨3, 3, 69, 192, [(69, 22), (92, 22), (115, 22), (138, 22), (161, 22)], [], [.slot 6], i_law18_BbrFalls_3⟩
/-! tideway/bbr.within -/
def fr_bbr_within_2 (p0 : Int) (p1 : (List Int)) : FF := [(tL p0) :: (.row false (.rint p1)) :: (dT 14 []), dc]
def fr_bbr_within_4 (p0 : Int) (p1 : (List Int)) (v1 : Int) : FF := [(tL p0) :: (dT 6 ((.row false (.rint p1)) :: (tL v1) :: (tL 0) :: (dT 6 []))), dc]
def fr_bbr_within_6 (p0 : Int) (p1 : (List Int)) (v1 v3 : Int) : FF := [(tL p0) :: (dT 6 ((.row false (.rint p1)) :: (tL v1) :: (tL v3) :: (dT 6 []))), dc]
def fr_bbr_within_7 : FF := [dT 4 ((tB false) :: (dT 11 [])), dc]
def fr_bbr_within_8 : FF := [dc, dc]
def fr_bbr_within_9 (p0 : Int) (p1 : (List Int)) (v1 v2 : Int) : FF := [(tL p0) :: (dT 6 ((.row false (.rint p1)) :: (tL v1) :: (tL v2) :: (dT 6 []))), dc]
theorem s_bbr_within_5_t {R : Type} (cp : Nat → Nat → Bool) (n : Nat) (p0 : Int) (p1 : (List Int)) (v1 v2 : Int) (k : Ex → FF → Option R) : X cp n i_bbr_within_0 (fr_bbr_within_9 p0 p1 v1 v2) k = s_bbr_within_5 cp n p0 p1 v1 v2 (fun v3 => k .norm (fr_bbr_within_6 p0 p1 v1 v3)) (k .ret fr_bbr_within_7) (k (.exit 0) fr_bbr_within_8) := by kernel_rfl
theorem l_bbr_within_10_t {R : Type} (cp : Nat → Nat → Bool) (n : Nat) : ∀ (m : Nat) (p0 : Int) (p1 : (List Int)) (v1 v2 : Int) (k : Ex → FF → Option R), loopN2 (X cp n i_bbr_within_0) m (fr_bbr_within_9 p0 p1 v1 v2) k = l_bbr_within_10 cp n m p0 p1 v1 v2 (k .ret fr_bbr_within_7) (k (.exit 0) fr_bbr_within_8)
  | 0, _, _, _, _, _ => rfl
  | m + 1, p0, p1, v1, v2, k => (loopN2_succ (X cp n i_bbr_within_0) m (fr_bbr_within_9 p0 p1 v1 v2) k).trans ((s_bbr_within_5_t cp n p0 p1 v1 v2 (loopT (X cp n i_bbr_within_0) m k)).trans ((show s_bbr_within_5 cp n p0 p1 v1 v2 (fun v3 => loopT (X cp n i_bbr_within_0) m k .norm (fr_bbr_within_6 p0 p1 v1 v3)) (loopT (X cp n i_bbr_within_0) m k .ret fr_bbr_within_7) (loopT (X cp n i_bbr_within_0) m k (.exit 0) fr_bbr_within_8) = s_bbr_within_5 cp n p0 p1 v1 v2 (fun v3 => loopN2 (X cp n i_bbr_within_0) m (fr_bbr_within_9 p0 p1 v1 v3) k) (k .ret fr_bbr_within_7) (k (.exit 0) fr_bbr_within_8) from by kernel_rfl).trans (congrArg (fun q => s_bbr_within_5 cp n p0 p1 v1 v2 q (k .ret fr_bbr_within_7) (k (.exit 0) fr_bbr_within_8)) (funext fun v3 => l_bbr_within_10_t cp n m p0 p1 v1 v3 k))))
theorem s_bbr_within_11_t {R : Type} (cp : Nat → Nat → Bool) (n : Nat) (p0 : Int) (p1 : (List Int)) (v1 : Int) (k : Ex → FF → Option R) : X cp n i_bbr_within_1 (fr_bbr_within_4 p0 p1 v1) k = s_bbr_within_11 cp n p0 p1 v1 (k .ret fr_bbr_within_7) (k (.exit 0) fr_bbr_within_8) := (show X cp n i_bbr_within_1 (fr_bbr_within_4 p0 p1 v1) k = loopN2 (X cp n i_bbr_within_0) n (fr_bbr_within_9 p0 p1 v1 0) k from by kernel_rfl).trans (l_bbr_within_10_t cp n n p0 p1 v1 0 k)
theorem s_bbr_within_12_t {R : Type} (cp : Nat → Nat → Bool) (n : Nat) (p0 : Int) (p1 : (List Int)) (v1 : Int) (k : Ex → FF → Option R) : X cp n i_bbr_within_2 (fr_bbr_within_4 p0 p1 v1) k = s_bbr_within_12 cp n p0 p1 v1 (k .norm fr_bbr_within_8) (k .ret fr_bbr_within_7) := (show X cp n i_bbr_within_2 (fr_bbr_within_4 p0 p1 v1) k = X cp n i_bbr_within_1 (fr_bbr_within_4 p0 p1 v1) (blkT 0 k) from by kernel_rfl).trans ((s_bbr_within_11_t cp n p0 p1 v1 (blkT 0 k)).trans (by kernel_rfl))
theorem s_bbr_within_13_t {R : Type} (cp : Nat → Nat → Bool) (n : Nat) (p0 : Int) (p1 : (List Int)) (k : Ex → FF → Option R) : X cp n i_bbr_within_3 (fr_bbr_within_2 p0 p1) k = s_bbr_within_13 cp n p0 p1 (k .norm fr_bbr_within_8) (k .ret fr_bbr_within_7) := ((fun c => (show X cp n (.seq (.fin (.reg g_bbr_within_1) [1] []) c) (fr_bbr_within_2 p0 p1) k = s_bbr_within_3 cp n p0 p1 (fun v1 => X cp n c (fr_bbr_within_4 p0 p1 v1) k) from by kernel_rfl)) i_bbr_within_2).trans (congrArg (fun q => s_bbr_within_3 cp n p0 p1 q) (funext fun v1 => s_bbr_within_12_t cp n p0 p1 v1 k))
def fr_bbr_within_15 : FF := [dT 4 ((tB true) :: (dT 11 [])), dc]
theorem s_bbr_within_14_t {R : Type} (cp : Nat → Nat → Bool) (n : Nat) (k : Ex → FF → Option R) : X cp n i_bbr_within_4 fr_bbr_within_8 k = s_bbr_within_14 cp n (k .ret fr_bbr_within_15) := by kernel_rfl
def fr_bbr_within_16 (v4 : Bool) : FF := [dT 4 ((tB v4) :: (dT 11 [])), dc]
theorem s_bbr_within_17_t {R : Type} (cp : Nat → Nat → Bool) (n : Nat) (p0 : Int) (p1 : (List Int)) (k : Ex → FF → Option R) : X cp n i_bbr_within_5 (fr_bbr_within_2 p0 p1) k = s_bbr_within_17 cp n p0 p1 (fun v4 => k .ret (fr_bbr_within_16 v4)) := (show X cp n i_bbr_within_5 (fr_bbr_within_2 p0 p1) k = X cp n i_bbr_within_3 (fr_bbr_within_2 p0 p1) (seqT (X cp n) i_bbr_within_4 k) from by kernel_rfl).trans ((show X cp n i_bbr_within_3 (fr_bbr_within_2 p0 p1) (seqT (X cp n) i_bbr_within_4 k) = s_bbr_within_13 cp n p0 p1 (X cp n i_bbr_within_4 fr_bbr_within_8 k) (k .ret (fr_bbr_within_16 false)) from (s_bbr_within_13_t cp n p0 p1 (seqT (X cp n) i_bbr_within_4 k)).trans (by kernel_rfl)).trans (congrArg (fun q => s_bbr_within_13 cp n p0 p1 q (k .ret (fr_bbr_within_16 false))) ((s_bbr_within_14_t cp n  k).trans (show s_bbr_within_14 cp n (k .ret fr_bbr_within_15) = s_bbr_within_14 cp n (k .ret (fr_bbr_within_16 true)) from by kernel_rfl))))
def fr_bbr_within_18 (v5 : Bool) : FF := [dT 4 ((tB v5) :: (dT 11 [])), dc]
theorem s_bbr_within_19_t {R : Type} (cp : Nat → Nat → Bool) (n : Nat) (p0 : Int) (p1 : (List Int)) (k : Ex → FF → Option R) : X cp n i_bbr_within_6 (fr_bbr_within_2 p0 p1) k = s_bbr_within_19 cp n p0 p1 (fun v5 => k .ret (fr_bbr_within_18 v5)) := ((fun c => (show X cp n (.seq (.fin (.reg g_bbr_within_0) [4] []) c) (fr_bbr_within_2 p0 p1) k = s_bbr_within_1 cp n p0 p1 (X cp n c (fr_bbr_within_2 p0 p1) k) from by kernel_rfl)) i_bbr_within_5).trans (congrArg (fun q => s_bbr_within_1 cp n p0 p1 q) ((s_bbr_within_17_t cp n p0 p1 k).trans (show s_bbr_within_17 cp n p0 p1 (fun v4 => k .ret (fr_bbr_within_16 v4)) = s_bbr_within_17 cp n p0 p1 (fun v4 => k .ret (fr_bbr_within_18 v4)) from by kernel_rfl)))
theorem run_bbr_within {R : Type} (cp : Nat → Nat → Bool) (n : Nat) (p0 : Int) (p1 : (List Int)) (k : Ret2 RW → Option R) : G_bbr_within cp (n + 1) p0 p1 (fun r0 => k ⟨(tB r0), []⟩) = run2 U cp (callP cp n) n fn_bbr_within [(tL p0), .row false (.rint p1)] [] k := ((X_run (f := fn_bbr_within) (av := [(tL p0), .row false (.rint p1)]) (cells := []) (code := i_bbr_within_6) (fr := (fr_bbr_within_2 p0 p1)) (k := k) (by kernel_rfl) (fun K => by kernel_rfl)).trans ((s_bbr_within_19_t cp n p0 p1 (finK2 fn_bbr_within k)).trans (by kernel_rfl))).symm
/-! tideway/filter.may -/
theorem run_filter_may {R : Type} (cp : Nat → Nat → Bool) (n : Nat) (p0 : SEntry) (k : Ret2 RW → Option R) : G_filter_may cp (n + 1) p0 (fun r0 => k ⟨(tB r0), []⟩) = run2 U cp (callP cp n) n fn_filter_may [.agg (eEntry p0)] [] k := by kernel_rfl
/-! tideway/filter.beats -/
theorem run_filter_beats {R : Type} (cp : Nat → Nat → Bool) (n : Nat) (p0 p1 : Int) (p2 : Bool) (k : Ret2 RW → Option R) : G_filter_beats cp (n + 1) p0 p1 p2 (fun r0 => k ⟨(tB r0), []⟩) = run2 U cp (callP cp n) n fn_filter_beats [(tL p0), (tL p1), (tB p2)] [] k := by kernel_rfl
/-! tideway/filter.Check -/
def fr_filter_Check_2 (p0 : (List SEntry)) (p1 : Bool) : FF := [(.row false (.rEntry p0)) :: (tB p1) :: (dT 14 []), dc, dc]
def fr_filter_Check_4 (p0 : (List SEntry)) (p1 : Bool) (v9 : Int) : FF := [(.row false (.rEntry p0)) :: (tB p1) :: (dT 5 ((.row false (.rEntry p0)) :: (tL v9) :: (tL 0) :: (dT 6 []))), dc, dc]
def fr_filter_Check_6 (p0 : (List SEntry)) (p1 : Bool) (v9 v13 : Int) : FF := [(.row false (.rEntry p0)) :: (tB p1) :: (dT 5 ((.row false (.rEntry p0)) :: (tL v9) :: (tL v13) :: (dT 6 []))), dc, dc]
def fr_filter_Check_7 : FF := [dT 4 ((tL 2) :: (dT 11 [])), dc, dc]
def fr_filter_Check_8 : FF := [dc, dc, dc]
def fr_filter_Check_9 (p0 : (List SEntry)) (p1 : Bool) (v9 v10 : Int) : FF := [(.row false (.rEntry p0)) :: (tB p1) :: (dT 5 ((.row false (.rEntry p0)) :: (tL v9) :: (tL v10) :: (dT 6 []))), dc, dc]
theorem s_filter_Check_5_t {R : Type} (cp : Nat → Nat → Bool) (n : Nat) (p0 : (List SEntry)) (p1 : Bool) (v9 v10 : Int) (k : Ex → FF → Option R) : X cp n i_filter_Check_0 (fr_filter_Check_9 p0 p1 v9 v10) k = s_filter_Check_5 cp n p0 p1 v9 v10 (fun v13 => k .norm (fr_filter_Check_6 p0 p1 v9 v13)) (k .ret fr_filter_Check_7) (k (.exit 0) fr_filter_Check_8) := by kernel_rfl
theorem l_filter_Check_10_t {R : Type} (cp : Nat → Nat → Bool) (n : Nat) : ∀ (m : Nat) (p0 : (List SEntry)) (p1 : Bool) (v9 v10 : Int) (k : Ex → FF → Option R), loopN2 (X cp n i_filter_Check_0) m (fr_filter_Check_9 p0 p1 v9 v10) k = l_filter_Check_10 cp n m p0 p1 v9 v10 (k .ret fr_filter_Check_7) (k (.exit 0) fr_filter_Check_8)
  | 0, _, _, _, _, _ => rfl
  | m + 1, p0, p1, v9, v10, k => (loopN2_succ (X cp n i_filter_Check_0) m (fr_filter_Check_9 p0 p1 v9 v10) k).trans ((s_filter_Check_5_t cp n p0 p1 v9 v10 (loopT (X cp n i_filter_Check_0) m k)).trans ((show s_filter_Check_5 cp n p0 p1 v9 v10 (fun v13 => loopT (X cp n i_filter_Check_0) m k .norm (fr_filter_Check_6 p0 p1 v9 v13)) (loopT (X cp n i_filter_Check_0) m k .ret fr_filter_Check_7) (loopT (X cp n i_filter_Check_0) m k (.exit 0) fr_filter_Check_8) = s_filter_Check_5 cp n p0 p1 v9 v10 (fun v13 => loopN2 (X cp n i_filter_Check_0) m (fr_filter_Check_9 p0 p1 v9 v13) k) (k .ret fr_filter_Check_7) (k (.exit 0) fr_filter_Check_8) from by kernel_rfl).trans (congrArg (fun q => s_filter_Check_5 cp n p0 p1 v9 v10 q (k .ret fr_filter_Check_7) (k (.exit 0) fr_filter_Check_8)) (funext fun v13 => l_filter_Check_10_t cp n m p0 p1 v9 v13 k))))
theorem s_filter_Check_11_t {R : Type} (cp : Nat → Nat → Bool) (n : Nat) (p0 : (List SEntry)) (p1 : Bool) (v9 : Int) (k : Ex → FF → Option R) : X cp n i_filter_Check_1 (fr_filter_Check_4 p0 p1 v9) k = s_filter_Check_11 cp n p0 p1 v9 (k .ret fr_filter_Check_7) (k (.exit 0) fr_filter_Check_8) := (show X cp n i_filter_Check_1 (fr_filter_Check_4 p0 p1 v9) k = loopN2 (X cp n i_filter_Check_0) n (fr_filter_Check_9 p0 p1 v9 0) k from by kernel_rfl).trans (l_filter_Check_10_t cp n n p0 p1 v9 0 k)
theorem s_filter_Check_12_t {R : Type} (cp : Nat → Nat → Bool) (n : Nat) (p0 : (List SEntry)) (p1 : Bool) (v9 : Int) (k : Ex → FF → Option R) : X cp n i_filter_Check_2 (fr_filter_Check_4 p0 p1 v9) k = s_filter_Check_12 cp n p0 p1 v9 (k .norm fr_filter_Check_8) (k .ret fr_filter_Check_7) := (show X cp n i_filter_Check_2 (fr_filter_Check_4 p0 p1 v9) k = X cp n i_filter_Check_1 (fr_filter_Check_4 p0 p1 v9) (blkT 0 k) from by kernel_rfl).trans ((s_filter_Check_11_t cp n p0 p1 v9 (blkT 0 k)).trans (by kernel_rfl))
theorem s_filter_Check_13_t {R : Type} (cp : Nat → Nat → Bool) (n : Nat) (p0 : (List SEntry)) (p1 : Bool) (k : Ex → FF → Option R) : X cp n i_filter_Check_3 (fr_filter_Check_2 p0 p1) k = s_filter_Check_13 cp n p0 p1 (k .norm fr_filter_Check_8) (k .ret fr_filter_Check_7) := ((fun c => (show X cp n (.seq (.reg g_filter_Check_1) c) (fr_filter_Check_2 p0 p1) k = s_filter_Check_3 cp n p0 p1 (fun v9 => X cp n c (fr_filter_Check_4 p0 p1 v9) k) from by kernel_rfl)) i_filter_Check_2).trans (congrArg (fun q => s_filter_Check_3 cp n p0 p1 q) (funext fun v9 => s_filter_Check_12_t cp n p0 p1 v9 k))
def fr_filter_Check_15 : FF := [dT 4 ((tL 0) :: (dT 11 [])), dc, dc]
theorem s_filter_Check_14_t {R : Type} (cp : Nat → Nat → Bool) (n : Nat) (k : Ex → FF → Option R) : X cp n i_filter_Check_4 fr_filter_Check_8 k = s_filter_Check_14 cp n (k .ret fr_filter_Check_15) := by kernel_rfl
def fr_filter_Check_16 (v14 : Int) : FF := [dT 4 ((tL v14) :: (dT 11 [])), dc, dc]
theorem s_filter_Check_17_t {R : Type} (cp : Nat → Nat → Bool) (n : Nat) (p0 : (List SEntry)) (p1 : Bool) (k : Ex → FF → Option R) : X cp n i_filter_Check_5 (fr_filter_Check_2 p0 p1) k = s_filter_Check_17 cp n p0 p1 (fun v14 => k .ret (fr_filter_Check_16 v14)) := (show X cp n i_filter_Check_5 (fr_filter_Check_2 p0 p1) k = X cp n i_filter_Check_3 (fr_filter_Check_2 p0 p1) (seqT (X cp n) i_filter_Check_4 k) from by kernel_rfl).trans ((show X cp n i_filter_Check_3 (fr_filter_Check_2 p0 p1) (seqT (X cp n) i_filter_Check_4 k) = s_filter_Check_13 cp n p0 p1 (X cp n i_filter_Check_4 fr_filter_Check_8 k) (k .ret (fr_filter_Check_16 2)) from (s_filter_Check_13_t cp n p0 p1 (seqT (X cp n) i_filter_Check_4 k)).trans (by kernel_rfl)).trans (congrArg (fun q => s_filter_Check_13 cp n p0 p1 q (k .ret (fr_filter_Check_16 2))) ((s_filter_Check_14_t cp n  k).trans (show s_filter_Check_14 cp n (k .ret fr_filter_Check_15) = s_filter_Check_14 cp n (k .ret (fr_filter_Check_16 0)) from by kernel_rfl))))
def fr_filter_Check_18 (v15 : Int) : FF := [dT 4 ((tL v15) :: (dT 11 [])), dc, dc]
theorem s_filter_Check_19_t {R : Type} (cp : Nat → Nat → Bool) (n : Nat) (p0 : (List SEntry)) (p1 : Bool) (k : Ex → FF → Option R) : X cp n i_filter_Check_6 (fr_filter_Check_2 p0 p1) k = s_filter_Check_19 cp n p0 p1 (fun v15 => k .ret (fr_filter_Check_18 v15)) := ((fun c => (show X cp n (.seq (.fin (.reg g_filter_Check_0) [4] []) c) (fr_filter_Check_2 p0 p1) k = s_filter_Check_1 cp n p0 p1 (X cp n c (fr_filter_Check_2 p0 p1) k) from by kernel_rfl)) i_filter_Check_5).trans (congrArg (fun q => s_filter_Check_1 cp n p0 p1 q) ((s_filter_Check_17_t cp n p0 p1 k).trans (show s_filter_Check_17 cp n p0 p1 (fun v14 => k .ret (fr_filter_Check_16 v14)) = s_filter_Check_17 cp n p0 p1 (fun v14 => k .ret (fr_filter_Check_18 v14)) from by kernel_rfl)))
theorem run_filter_Check {R : Type} (cp : Nat → Nat → Bool) (n : Nat) (p0 : (List SEntry)) (p1 : Bool) (k : Ret2 RW → Option R) : G_filter_Check cp (n + 1) p0 p1 (fun r0 => k ⟨(tL r0), []⟩) = run2 U cp (callP cp n) n fn_filter_Check [.row false (.rEntry p0), (tB p1)] [] k := ((X_run (f := fn_filter_Check) (av := [.row false (.rEntry p0), (tB p1)]) (cells := []) (code := i_filter_Check_6) (fr := (fr_filter_Check_2 p0 p1)) (k := k) (by kernel_rfl) (fun K => by kernel_rfl)).trans ((s_filter_Check_19_t cp n p0 p1 (finK2 fn_filter_Check k)).trans (by kernel_rfl))).symm
/-! (*tideway/bbr.ctl).entries -/
def fr_bbr_ctl_entries_2 (q0 : Sctl) : FF := [(.ptr 36 0) :: (dT 15 []), dc, dT 4 ((.hdr 22) :: (sl 0 11 (ectl q0))), sl 11 11 (ectl q0) ++ (dT 5 [])]
def fr_bbr_ctl_entries_3 (q0 : Sctl) : FF := [dT 2 ((tB false) :: (dT 13 [])), dc, dT 4 ((.hdr 22) :: (sl 0 11 (ectl q0))), sl 11 11 (ectl q0) ++ (dT 5 [])]
def fr_bbr_ctl_entries_5 (q0 : Sctl) (v17 : Int) : FF := [(.ptr 36 0) :: (dT 15 []), (.row false (.rEntry q0.xCc_Bw)) :: (tL v17) :: (tL 0) :: (dT 13 []), dT 4 ((.hdr 22) :: (sl 0 11 (ectl q0))), sl 11 11 (ectl q0) ++ (dT 5 [])]
def fr_bbr_ctl_entries_7 (q0 : Sctl) (v17 v19 : Int) : FF := [(.ptr 36 0) :: (dT 15 []), (.row false (.rEntry q0.xCc_Bw)) :: (tL v17) :: (tL v19) :: (dT 13 []), dT 4 ((.hdr 22) :: (sl 0 11 (ectl q0))), sl 11 11 (ectl q0) ++ (dT 5 [])]
def fr_bbr_ctl_entries_8 (q0 : Sctl) : FF := [dc, dc, dT 4 ((.hdr 22) :: (sl 0 11 (ectl q0))), sl 11 11 (ectl q0) ++ (dT 5 [])]
def fr_bbr_ctl_entries_9 (q0 : Sctl) (v17 v18 : Int) : FF := [(.ptr 36 0) :: (dT 15 []), (.row false (.rEntry q0.xCc_Bw)) :: (tL v17) :: (tL v18) :: (dT 13 []), dT 4 ((.hdr 22) :: (sl 0 11 (ectl q0))), sl 11 11 (ectl q0) ++ (dT 5 [])]
theorem s_bbr_ctl_entries_6_t {R : Type} (cp : Nat → Nat → Bool) (n : Nat) (q0 : Sctl) (v17 v18 : Int) (k : Ex → FF → Option R) : X cp n i_bbr_ctl_entries_0 (fr_bbr_ctl_entries_9 q0 v17 v18) k = s_bbr_ctl_entries_6 cp n q0 v17 v18 (fun v19 => k .norm (fr_bbr_ctl_entries_7 q0 v17 v19)) (k .ret (fr_bbr_ctl_entries_3 q0)) (k (.exit 0) (fr_bbr_ctl_entries_8 q0)) := by kernel_rfl
theorem l_bbr_ctl_entries_10_t {R : Type} (cp : Nat → Nat → Bool) (n : Nat) : ∀ (m : Nat) (q0 : Sctl) (v17 v18 : Int) (k : Ex → FF → Option R), loopN2 (X cp n i_bbr_ctl_entries_0) m (fr_bbr_ctl_entries_9 q0 v17 v18) k = l_bbr_ctl_entries_10 cp n m q0 v17 v18 (k .ret (fr_bbr_ctl_entries_3 q0)) (k (.exit 0) (fr_bbr_ctl_entries_8 q0))
  | 0, _, _, _, _ => rfl
  | m + 1, q0, v17, v18, k => (loopN2_succ (X cp n i_bbr_ctl_entries_0) m (fr_bbr_ctl_entries_9 q0 v17 v18) k).trans ((s_bbr_ctl_entries_6_t cp n q0 v17 v18 (loopT (X cp n i_bbr_ctl_entries_0) m k)).trans ((show s_bbr_ctl_entries_6 cp n q0 v17 v18 (fun v19 => loopT (X cp n i_bbr_ctl_entries_0) m k .norm (fr_bbr_ctl_entries_7 q0 v17 v19)) (loopT (X cp n i_bbr_ctl_entries_0) m k .ret (fr_bbr_ctl_entries_3 q0)) (loopT (X cp n i_bbr_ctl_entries_0) m k (.exit 0) (fr_bbr_ctl_entries_8 q0)) = s_bbr_ctl_entries_6 cp n q0 v17 v18 (fun v19 => loopN2 (X cp n i_bbr_ctl_entries_0) m (fr_bbr_ctl_entries_9 q0 v17 v19) k) (k .ret (fr_bbr_ctl_entries_3 q0)) (k (.exit 0) (fr_bbr_ctl_entries_8 q0)) from by kernel_rfl).trans (congrArg (fun q => s_bbr_ctl_entries_6 cp n q0 v17 v18 q (k .ret (fr_bbr_ctl_entries_3 q0)) (k (.exit 0) (fr_bbr_ctl_entries_8 q0))) (funext fun v19 => l_bbr_ctl_entries_10_t cp n m q0 v17 v19 k))))
theorem s_bbr_ctl_entries_11_t {R : Type} (cp : Nat → Nat → Bool) (n : Nat) (q0 : Sctl) (v17 : Int) (k : Ex → FF → Option R) : X cp n i_bbr_ctl_entries_1 (fr_bbr_ctl_entries_5 q0 v17) k = s_bbr_ctl_entries_11 cp n q0 v17 (k .ret (fr_bbr_ctl_entries_3 q0)) (k (.exit 0) (fr_bbr_ctl_entries_8 q0)) := (show X cp n i_bbr_ctl_entries_1 (fr_bbr_ctl_entries_5 q0 v17) k = loopN2 (X cp n i_bbr_ctl_entries_0) n (fr_bbr_ctl_entries_9 q0 v17 0) k from by kernel_rfl).trans (l_bbr_ctl_entries_10_t cp n n q0 v17 0 k)
theorem s_bbr_ctl_entries_12_t {R : Type} (cp : Nat → Nat → Bool) (n : Nat) (q0 : Sctl) (v17 : Int) (k : Ex → FF → Option R) : X cp n i_bbr_ctl_entries_2 (fr_bbr_ctl_entries_5 q0 v17) k = s_bbr_ctl_entries_12 cp n q0 v17 (k .norm (fr_bbr_ctl_entries_8 q0)) (k .ret (fr_bbr_ctl_entries_3 q0)) := (show X cp n i_bbr_ctl_entries_2 (fr_bbr_ctl_entries_5 q0 v17) k = X cp n i_bbr_ctl_entries_1 (fr_bbr_ctl_entries_5 q0 v17) (blkT 0 k) from by kernel_rfl).trans ((s_bbr_ctl_entries_11_t cp n q0 v17 (blkT 0 k)).trans (by kernel_rfl))
theorem s_bbr_ctl_entries_13_t {R : Type} (cp : Nat → Nat → Bool) (n : Nat) (q0 : Sctl) (k : Ex → FF → Option R) : X cp n i_bbr_ctl_entries_3 (fr_bbr_ctl_entries_2 q0) k = s_bbr_ctl_entries_13 cp n q0 (k .norm (fr_bbr_ctl_entries_8 q0)) (k .ret (fr_bbr_ctl_entries_3 q0)) := ((fun c => (show X cp n (.seq (.fin (.reg g_bbr_ctl_entries_3) [12, 13, 14, 15] []) c) (fr_bbr_ctl_entries_2 q0) k = s_bbr_ctl_entries_4 cp n q0 (fun v17 => X cp n c (fr_bbr_ctl_entries_5 q0 v17) k) from by kernel_rfl)) i_bbr_ctl_entries_2).trans (congrArg (fun q => s_bbr_ctl_entries_4 cp n q0 q) (funext fun v17 => s_bbr_ctl_entries_12_t cp n q0 v17 k))
def fr_bbr_ctl_entries_15 (q0 : Sctl) : FF := [dT 2 ((tB true) :: (dT 13 [])), dc, dT 4 ((.hdr 22) :: (sl 0 11 (ectl q0))), sl 11 11 (ectl q0) ++ (dT 5 [])]
theorem s_bbr_ctl_entries_14_t {R : Type} (cp : Nat → Nat → Bool) (n : Nat) (q0 : Sctl) (k : Ex → FF → Option R) : X cp n i_bbr_ctl_entries_4 (fr_bbr_ctl_entries_8 q0) k = s_bbr_ctl_entries_14 cp n q0 (k .ret (fr_bbr_ctl_entries_15 q0)) := by kernel_rfl
def fr_bbr_ctl_entries_16 (q0 : Sctl) (v20 : Bool) : FF := [dT 2 ((tB v20) :: (dT 13 [])), dc, dT 4 ((.hdr 22) :: (sl 0 11 (ectl q0))), sl 11 11 (ectl q0) ++ (dT 5 [])]
theorem s_bbr_ctl_entries_17_t {R : Type} (cp : Nat → Nat → Bool) (n : Nat) (q0 : Sctl) (k : Ex → FF → Option R) : X cp n i_bbr_ctl_entries_5 (fr_bbr_ctl_entries_2 q0) k = s_bbr_ctl_entries_17 cp n q0 (fun v20 => k .ret (fr_bbr_ctl_entries_16 q0 v20)) := (show X cp n i_bbr_ctl_entries_5 (fr_bbr_ctl_entries_2 q0) k = X cp n i_bbr_ctl_entries_3 (fr_bbr_ctl_entries_2 q0) (seqT (X cp n) i_bbr_ctl_entries_4 k) from by kernel_rfl).trans ((show X cp n i_bbr_ctl_entries_3 (fr_bbr_ctl_entries_2 q0) (seqT (X cp n) i_bbr_ctl_entries_4 k) = s_bbr_ctl_entries_13 cp n q0 (X cp n i_bbr_ctl_entries_4 (fr_bbr_ctl_entries_8 q0) k) (k .ret (fr_bbr_ctl_entries_16 q0 false)) from (s_bbr_ctl_entries_13_t cp n q0 (seqT (X cp n) i_bbr_ctl_entries_4 k)).trans (by kernel_rfl)).trans (congrArg (fun q => s_bbr_ctl_entries_13 cp n q0 q (k .ret (fr_bbr_ctl_entries_16 q0 false))) ((s_bbr_ctl_entries_14_t cp n q0 k).trans (show s_bbr_ctl_entries_14 cp n q0 (k .ret (fr_bbr_ctl_entries_15 q0)) = s_bbr_ctl_entries_14 cp n q0 (k .ret (fr_bbr_ctl_entries_16 q0 true)) from by kernel_rfl))))
def fr_bbr_ctl_entries_18 (q0 : Sctl) (v21 : Bool) : FF := [dT 2 ((tB v21) :: (dT 13 [])), dc, dT 4 ((.hdr 22) :: (sl 0 11 (ectl q0))), sl 11 11 (ectl q0) ++ (dT 5 [])]
theorem s_bbr_ctl_entries_19_t {R : Type} (cp : Nat → Nat → Bool) (n : Nat) (q0 : Sctl) (k : Ex → FF → Option R) : X cp n i_bbr_ctl_entries_6 (fr_bbr_ctl_entries_2 q0) k = s_bbr_ctl_entries_19 cp n q0 (fun v21 => k .ret (fr_bbr_ctl_entries_18 q0 v21)) := ((fun c => (show X cp n (.seq (.fin (.reg g_bbr_ctl_entries_0) [2] []) (.seq (.seq (.fin (.reg g_bbr_ctl_entries_1) [5, 6, 7, 8, 9, 10] []) (.fin (.cond (.s 11) (.seq (.fin (.reg g_bbr_ctl_entries_2) [0, 11] []) (.ret)) (.skip)) [11] [])) c)) (fr_bbr_ctl_entries_2 q0) k = s_bbr_ctl_entries_1 cp n q0 (X cp n c (fr_bbr_ctl_entries_2 q0) k) (k .ret (fr_bbr_ctl_entries_18 q0 false)) from by kernel_rfl)) i_bbr_ctl_entries_5).trans (congrArg (fun q => s_bbr_ctl_entries_1 cp n q0 q (k .ret (fr_bbr_ctl_entries_18 q0 false))) ((s_bbr_ctl_entries_17_t cp n q0 k).trans (show s_bbr_ctl_entries_17 cp n q0 (fun v20 => k .ret (fr_bbr_ctl_entries_16 q0 v20)) = s_bbr_ctl_entries_17 cp n q0 (fun v20 => k .ret (fr_bbr_ctl_entries_18 q0 v20)) from by kernel_rfl)))
theorem run_bbr_ctl_entries {R : Type} (cp : Nat → Nat → Bool) (n : Nat) (q0 : Sctl) (k : Ret2 RW → Option R) : G_bbr_ctl_entries cp (n + 1) q0 (fun r0 r1 => k ⟨(tB r0), [(ectl r1)]⟩) = run2 U cp (callP cp n) n fn_bbr_ctl_entries [.ptr 36 0] [(ectl q0)] k := ((X_run (f := fn_bbr_ctl_entries) (av := [.ptr 36 0]) (cells := [(ectl q0)]) (code := i_bbr_ctl_entries_6) (fr := (fr_bbr_ctl_entries_2 q0)) (k := k) (by kernel_rfl) (fun K => by kernel_rfl)).trans ((s_bbr_ctl_entries_19_t cp n q0 (finK2 fn_bbr_ctl_entries k)).trans (by kernel_rfl))).symm
/-! tideway/bbr.Check -/
def fr_bbr_Check_2 (p0 : SCc) : FF := [dT 3 ((.ptr 232 0) :: (dT 12 [])), dc, dc, dc, dc, dc, dc, dc, dc, dc, dc, dc, dc, dc, dT 8 ((.hdr 22) :: (sl 0 7 (eCc p0))), sl 7 15 (eCc p0) ++ (dT 1 [])]
def fr_bbr_Check_4 (p0 : SCc) (v1 : Bool) : FF := [dT 3 ((.ptr 232 0) :: (tB v1) :: (dT 11 [])), dc, dc, dc, dc, dc, dc, dc, dc, dc, dc, dc, dc, dc, dT 8 ((.hdr 22) :: (sl 0 7 (eCc p0))), sl 7 15 (eCc p0) ++ (dT 1 [])]
def fr_bbr_Check_6 (p0 : SCc) (v1 v2 : Bool) : FF := [dT 3 ((.ptr 232 0) :: (tB v1) :: (tB v2) :: (dT 10 [])), dc, dc, dc, dc, dc, dc, dc, dc, dc, dc, dc, dc, dc, dT 8 ((.hdr 22) :: (sl 0 7 (eCc p0))), sl 7 15 (eCc p0) ++ (dT 1 [])]
def fr_bbr_Check_8 (p0 : SCc) (v1 v2 v4 : Bool) : FF := [dT 3 ((.ptr 232 0) :: (tB v1) :: (tB v2) :: (tB v4) :: (dT 9 [])), dc, dc, dc, dc, dc, dc, dc, dc, dc, dc, dc, dc, dc, dT 8 ((.hdr 22) :: (sl 0 7 (eCc p0))), sl 7 15 (eCc p0) ++ (dT 1 [])]
def fr_bbr_Check_10 (p0 : SCc) (v1 v2 v4 v9 : Bool) : FF := [dT 3 ((.ptr 232 0) :: (tB v1) :: (tB v2) :: (tB v4) :: (tB v9) :: (dT 8 [])), dc, dc, dc, dc, dc, dc, dc, dc, dc, dc, dc, dc, dc, dT 8 ((.hdr 22) :: (sl 0 7 (eCc p0))), sl 7 15 (eCc p0) ++ (dT 1 [])]
def fr_bbr_Check_12 (v12 : Int) : FF := [dT 2 ((tL v12) :: (dT 13 [])), dc, dc, dc, dc, dc, dc, dc, dc, dc, dc, dc, dc, dc, dc, dc]
theorem s_bbr_Check_11_t {R : Type} (cp : Nat → Nat → Bool) (n : Nat) (p0 : SCc) (v1 v2 v4 v9 : Bool) (k : Ex → FF → Option R) : X cp n i_bbr_Check_0 (fr_bbr_Check_10 p0 v1 v2 v4 v9) k = s_bbr_Check_11 cp n p0 v1 v2 v4 v9 (fun v12 => k .ret (fr_bbr_Check_12 v12)) := by kernel_rfl
def fr_bbr_Check_13 (v13 : Int) : FF := [dT 2 ((tL v13) :: (dT 13 [])), dc, dc, dc, dc, dc, dc, dc, dc, dc, dc, dc, dc, dc, dc, dc]
theorem s_bbr_Check_14_t {R : Type} (cp : Nat → Nat → Bool) (n : Nat) (p0 : SCc) (v1 v2 v4 : Bool) (k : Ex → FF → Option R) : X cp n i_bbr_Check_1 (fr_bbr_Check_8 p0 v1 v2 v4) k = s_bbr_Check_14 cp n p0 v1 v2 v4 (fun v13 => k .ret (fr_bbr_Check_13 v13)) := ((fun c => (show X cp n (.seq (.fin (.reg g_bbr_Check_5) [140, 141, 142, 143, 144, 145, 146, 147, 148, 149, 150, 151, 152, 153, 154, 155, 156, 157, 158, 159, 160, 161, 162, 163, 164, 165, 166, 167, 168, 169, 170, 171, 172, 173] []) c) (fr_bbr_Check_8 p0 v1 v2 v4) k = s_bbr_Check_9 cp n p0 v1 v2 v4 (fun v9 => X cp n c (fr_bbr_Check_10 p0 v1 v2 v4 v9) k) from by kernel_rfl)) i_bbr_Check_0).trans (congrArg (fun q => s_bbr_Check_9 cp n p0 v1 v2 v4 q) (funext fun v9 => (s_bbr_Check_11_t cp n p0 v1 v2 v4 v9 k).trans (show s_bbr_Check_11 cp n p0 v1 v2 v4 v9 (fun v12 => k .ret (fr_bbr_Check_12 v12)) = s_bbr_Check_11 cp n p0 v1 v2 v4 v9 (fun v12 => k .ret (fr_bbr_Check_13 v12)) from by kernel_rfl)))
def fr_bbr_Check_15 (v14 : Int) : FF := [dT 2 ((tL v14) :: (dT 13 [])), dc, dc, dc, dc, dc, dc, dc, dc, dc, dc, dc, dc, dc, dc, dc]
theorem s_bbr_Check_16_t {R : Type} (cp : Nat → Nat → Bool) (n : Nat) (p0 : SCc) (v1 v2 : Bool) (k : Ex → FF → Option R) : X cp n i_bbr_Check_2 (fr_bbr_Check_6 p0 v1 v2) k = s_bbr_Check_16 cp n p0 v1 v2 (fun v14 => k .ret (fr_bbr_Check_15 v14)) := ((fun c => (show X cp n (.seq (.fin (.reg g_bbr_Check_4) [108, 109, 110, 111, 112, 113, 114, 115, 116, 117, 118, 119, 120, 121, 122, 123, 124, 125, 126, 127, 128, 129, 130, 131, 132, 133, 134, 135, 136, 137, 138, 139] []) c) (fr_bbr_Check_6 p0 v1 v2) k = s_bbr_Check_7 cp n p0 v1 v2 (fun v4 => X cp n c (fr_bbr_Check_8 p0 v1 v2 v4) k) from by kernel_rfl)) i_bbr_Check_1).trans (congrArg (fun q => s_bbr_Check_7 cp n p0 v1 v2 q) (funext fun v4 => (s_bbr_Check_14_t cp n p0 v1 v2 v4 k).trans (show s_bbr_Check_14 cp n p0 v1 v2 v4 (fun v13 => k .ret (fr_bbr_Check_13 v13)) = s_bbr_Check_14 cp n p0 v1 v2 v4 (fun v13 => k .ret (fr_bbr_Check_15 v13)) from by kernel_rfl)))
def fr_bbr_Check_17 (v15 : Int) : FF := [dT 2 ((tL v15) :: (dT 13 [])), dc, dc, dc, dc, dc, dc, dc, dc, dc, dc, dc, dc, dc, dc, dc]
theorem s_bbr_Check_18_t {R : Type} (cp : Nat → Nat → Bool) (n : Nat) (p0 : SCc) (v1 : Bool) (k : Ex → FF → Option R) : X cp n i_bbr_Check_3 (fr_bbr_Check_4 p0 v1) k = s_bbr_Check_18 cp n p0 v1 (fun v15 => k .ret (fr_bbr_Check_17 v15)) := ((fun c => (show X cp n (.seq (.fin (.reg g_bbr_Check_3) [70, 71, 72, 73, 74, 75, 76, 77, 78, 79, 80, 81, 82, 83, 84, 85, 86, 87, 88, 89, 90, 91, 92, 93, 94, 95, 96, 97, 98, 99, 100, 101, 102, 103, 104, 105, 106, 107] []) c) (fr_bbr_Check_4 p0 v1) k = s_bbr_Check_5 cp n p0 v1 (fun v2 => X cp n c (fr_bbr_Check_6 p0 v1 v2) k) from by kernel_rfl)) i_bbr_Check_2).trans (congrArg (fun q => s_bbr_Check_5 cp n p0 v1 q) (funext fun v2 => (s_bbr_Check_16_t cp n p0 v1 v2 k).trans (show s_bbr_Check_16 cp n p0 v1 v2 (fun v14 => k .ret (fr_bbr_Check_15 v14)) = s_bbr_Check_16 cp n p0 v1 v2 (fun v14 => k .ret (fr_bbr_Check_17 v14)) from by kernel_rfl)))
def fr_bbr_Check_19 (v16 : Int) : FF := [dT 2 ((tL v16) :: (dT 13 [])), dc, dc, dc, dc, dc, dc, dc, dc, dc, dc, dc, dc, dc, dc, dc]
theorem s_bbr_Check_20_t {R : Type} (cp : Nat → Nat → Bool) (n : Nat) (p0 : SCc) (k : Ex → FF → Option R) : X cp n i_bbr_Check_4 (fr_bbr_Check_2 p0) k = s_bbr_Check_20 cp n p0 (fun v16 => k .ret (fr_bbr_Check_19 v16)) := ((fun c => (show X cp n (.seq (.fin (.reg g_bbr_Check_2) [11, 12, 13, 14, 15, 16, 17, 18, 19, 20, 21, 22, 23, 24, 25, 26, 27, 28, 29, 30, 31, 32, 33, 34, 35, 36, 37, 38, 39, 40, 41, 42, 43, 44, 45, 46, 47, 48, 49, 50, 51, 52, 53, 54, 55, 56, 57, 58, 59, 60, 61, 62, 63, 64, 65, 66, 67, 68, 69] []) c) (fr_bbr_Check_2 p0) k = s_bbr_Check_3 cp n p0 (fun v1 => X cp n c (fr_bbr_Check_4 p0 v1) k) from by kernel_rfl)) i_bbr_Check_3).trans (congrArg (fun q => s_bbr_Check_3 cp n p0 q) (funext fun v1 => (s_bbr_Check_18_t cp n p0 v1 k).trans (show s_bbr_Check_18 cp n p0 v1 (fun v15 => k .ret (fr_bbr_Check_17 v15)) = s_bbr_Check_18 cp n p0 v1 (fun v15 => k .ret (fr_bbr_Check_19 v15)) from by kernel_rfl)))
def fr_bbr_Check_21 (v17 : Int) : FF := [dT 2 ((tL v17) :: (dT 13 [])), dc, dc, dc, dc, dc, dc, dc, dc, dc, dc, dc, dc, dc, dc, dc]
def fr_bbr_Check_23 (p0 : SCc) : FF := [(.agg (eCc p0)) :: (dT 15 []), dc, dc, dc, dc, dc, dc, dc, dc, dc, dc, dc, dc, dc, dc, dc]
theorem s_bbr_Check_22_t {R : Type} (cp : Nat → Nat → Bool) (n : Nat) (p0 : SCc) (k : Ex → FF → Option R) : X cp n i_bbr_Check_5 (fr_bbr_Check_23 p0) k = s_bbr_Check_22 cp n p0 (fun v17 => k .ret (fr_bbr_Check_21 v17)) := ((fun c => (show X cp n (.seq (.fin (.reg g_bbr_Check_0) [0, 2] []) (.seq (.fin (.reg g_bbr_Check_1) [1, 8, 9, 10] [(209, 22)]) c)) (fr_bbr_Check_23 p0) k = s_bbr_Check_1 cp n p0 (X cp n c (fr_bbr_Check_2 p0) k) from by kernel_rfl)) i_bbr_Check_4).trans (congrArg (fun q => s_bbr_Check_1 cp n p0 q) ((s_bbr_Check_20_t cp n p0 k).trans (show s_bbr_Check_20 cp n p0 (fun v16 => k .ret (fr_bbr_Check_19 v16)) = s_bbr_Check_20 cp n p0 (fun v16 => k .ret (fr_bbr_Check_21 v16)) from by kernel_rfl)))
theorem run_bbr_Check {R : Type} (cp : Nat → Nat → Bool) (n : Nat) (p0 : SCc) (k : Ret2 RW → Option R) : G_bbr_Check cp (n + 1) p0 (fun r0 => k ⟨(tL r0), []⟩) = run2 U cp (callP cp n) n fn_bbr_Check [.agg (eCc p0)] [] k := ((X_run (f := fn_bbr_Check) (av := [.agg (eCc p0)]) (cells := []) (code := i_bbr_Check_5) (fr := (fr_bbr_Check_23 p0)) (k := k) (by kernel_rfl) (fun K => by kernel_rfl)).trans ((s_bbr_Check_22_t cp n p0 (finK2 fn_bbr_Check k)).trans (by kernel_rfl))).symm
/-! tideway/bbr.Timeout -/
theorem run_bbr_Timeout {R : Type} (cp : Nat → Nat → Bool) (n : Nat) (p0 : SCc) (p1 : Int) (k : Ret2 RW → Option R) : G_bbr_Timeout cp (n + 1) p0 p1 (fun r0 r1 => k ⟨.tup [.agg (eCc r0), (tL r1)], []⟩) = run2 U cp (callP cp n) n fn_bbr_Timeout [.agg (eCc p0), (tL p1)] [] k := by kernel_rfl
/-! tideway/tidewayref15.Plain -/
def fr_ref15_Plain_2 (p0 : SCc) (p2 : Bool) : FF := [dT 2 ((tB p2) :: (.ptr 97 0) :: (dT 12 [])), dc, dc, dc, dc, dc, dT 1 ((.hdr 22) :: (sl 0 14 (eCc p0))), sl 14 8 (eCc p0) ++ (dT 8 [])]
def fr_ref15_Plain_3 : FF := [dT 6 ((tB false) :: (dT 9 [])), dc, dc, dc, dc, dc, dc, dc]
def fr_ref15_Plain_5 (v22 : Bool) : FF := [dT 6 ((tB v22) :: (dT 9 [])), dc, dc, dc, dc, dc, dc, dc]
theorem s_ref15_Plain_4_t {R : Type} (cp : Nat → Nat → Bool) (n : Nat) (p0 : SCc) (p2 : Bool) (k : Ex → FF → Option R) : X cp n i_ref15_Plain_0 (fr_ref15_Plain_2 p0 p2) k = s_ref15_Plain_4 cp n p0 p2 (fun v22 => k .ret (fr_ref15_Plain_5 v22)) := by kernel_rfl
def fr_ref15_Plain_6 (v23 : Bool) : FF := [dT 6 ((tB v23) :: (dT 9 [])), dc, dc, dc, dc, dc, dc, dc]
def fr_ref15_Plain_8 (p0 : SCc) (p1 p2 : Bool) : FF := [(.agg (eCc p0)) :: (tB p1) :: (tB p2) :: (dT 13 []), dc, dc, dc, dc, dc, dc, dc]
theorem s_ref15_Plain_7_t {R : Type} (cp : Nat → Nat → Bool) (n : Nat) (p0 : SCc) (p1 p2 : Bool) (k : Ex → FF → Option R) : X cp n i_ref15_Plain_1 (fr_ref15_Plain_8 p0 p1 p2) k = s_ref15_Plain_7 cp n p0 p1 p2 (fun v23 => k .ret (fr_ref15_Plain_6 v23)) := ((fun c => (show X cp n (.seq (.fin (.reg g_ref15_Plain_0) [0, 6] []) (.seq (.seq (.fin (.reg g_ref15_Plain_1) [1, 7, 8, 9, 10, 11, 12, 13, 14, 15, 16, 17, 18, 19, 20, 21, 22, 23, 24, 25, 26, 27, 28, 29, 30, 31, 32] []) (.fin (.cond (.s 33) (.seq (.fin (.reg g_ref15_Plain_2) [2, 3, 33] [(97, 22)]) (.ret)) (.skip)) [33] [])) c)) (fr_ref15_Plain_8 p0 p1 p2) k = s_ref15_Plain_1 cp n p0 p1 p2 (X cp n c (fr_ref15_Plain_2 p0 p2) k) (k .ret (fr_ref15_Plain_6 false)) from by kernel_rfl)) i_ref15_Plain_0).trans (congrArg (fun q => s_ref15_Plain_1 cp n p0 p1 p2 q (k .ret (fr_ref15_Plain_6 false))) ((s_ref15_Plain_4_t cp n p0 p2 k).trans (show s_ref15_Plain_4 cp n p0 p2 (fun v22 => k .ret (fr_ref15_Plain_5 v22)) = s_ref15_Plain_4 cp n p0 p2 (fun v22 => k .ret (fr_ref15_Plain_6 v22)) from by kernel_rfl)))
theorem run_ref15_Plain {R : Type} (cp : Nat → Nat → Bool) (n : Nat) (p0 : SCc) (p1 p2 : Bool) (k : Ret2 RW → Option R) : G_ref15_Plain cp (n + 1) p0 p1 p2 (fun r0 => k ⟨(tB r0), []⟩) = run2 U cp (callP cp n) n fn_ref15_Plain [.agg (eCc p0), (tB p1), (tB p2)] [] k := ((X_run (f := fn_ref15_Plain) (av := [.agg (eCc p0), (tB p1), (tB p2)]) (cells := []) (code := i_ref15_Plain_1) (fr := (fr_ref15_Plain_8 p0 p1 p2)) (k := k) (by kernel_rfl) (fun K => by kernel_rfl)).trans ((s_ref15_Plain_7_t cp n p0 p1 p2 (finK2 fn_ref15_Plain k)).trans (by kernel_rfl))).symm
/-! tideway/tidewayref12.time -/
theorem run_ref12_time {R : Type} (cp : Nat → Nat → Bool) (n : Nat) (p0 : Int) (k : Ret2 RW → Option R) : G_ref12_time cp (n + 1) p0 (fun r0 => k ⟨(tB r0), []⟩) = run2 U cp (callP cp n) n fn_ref12_time [(tL p0)] [] k := by kernel_rfl
/-! tideway/tidewayref12.value -/
theorem run_ref12_value {R : Type} (cp : Nat → Nat → Bool) (n : Nat) (p0 : Int) (k : Ret2 RW → Option R) : G_ref12_value cp (n + 1) p0 (fun r0 => k ⟨(tB r0), []⟩) = run2 U cp (callP cp n) n fn_ref12_value [(tL p0)] [] k := by kernel_rfl
/-! tideway/tidewayref12.Check -/
def fr_ref12_Check_2 (p0 : (List SEntry)) (p1 : Bool) : FF := [(.row false (.rEntry p0)) :: (tB p1) :: (dT 14 []), dc, dc, dc, dc, dc]
def fr_ref12_Check_4 (p0 : (List SEntry)) (p1 : Bool) : FF := [(.row false (.rEntry p0)) :: (tB p1) :: (dT 3 ((tL 0) :: (dT 10 []))), dc, dc, dc, dc, dc]
def fr_ref12_Check_6 (p0 : (List SEntry)) (p1 : Bool) (v26 : Int) : FF := [(.row false (.rEntry p0)) :: (tB p1) :: (dT 3 ((tL v26) :: (dT 10 []))), dc, dc, dc, dc, dc]
def fr_ref12_Check_7 : FF := [dc, dc, dc, dc, dc, dc]
def fr_ref12_Check_9 : FF := [dT 4 ((tL 2) :: (dT 11 [])), dc, dc, dc, dc, dc]
theorem s_ref12_Check_10_t {R : Type} (cp : Nat → Nat → Bool) (n : Nat) (p0 : (List SEntry)) (p1 : Bool) (v26 : Int) (k : Ex → FF → Option R) : X cp n i_ref12_Check_0 (fr_ref12_Check_6 p0 p1 v26) k = s_ref12_Check_10 cp n p0 p1 v26 (k .norm (fr_ref12_Check_6 p0 p1 v26)) (k .ret fr_ref12_Check_9) := by kernel_rfl
theorem s_ref12_Check_11_t {R : Type} (cp : Nat → Nat → Bool) (n : Nat) (p0 : (List SEntry)) (p1 : Bool) (v26 : Int) (k : Ex → FF → Option R) : X cp n i_ref12_Check_1 (fr_ref12_Check_6 p0 p1 v26) k = s_ref12_Check_11 cp n p0 p1 v26 (k .norm (fr_ref12_Check_6 p0 p1 v26)) (k .ret fr_ref12_Check_9) := ((fun c => (show X cp n (.seq (.seq (.fin (.reg g_ref12_Check_4) [12, 13, 14, 15, 16, 17, 18, 19, 20, 21, 22, 23, 24, 25, 26, 27, 28, 29, 30, 31, 32, 33, 34, 35, 36, 37, 38, 39, 40, 41, 42, 43, 44] []) (.fin (.cond (.s 45) (.seq (.fin (.reg g_ref12_Check_5) [0, 1, 5, 45] []) (.ret)) (.skip)) [45] [])) c) (fr_ref12_Check_6 p0 p1 v26) k = s_ref12_Check_8 cp n p0 p1 v26 (X cp n c (fr_ref12_Check_6 p0 p1 v26) k) (k .ret fr_ref12_Check_9) from by kernel_rfl)) i_ref12_Check_0).trans (congrArg (fun q => s_ref12_Check_8 cp n p0 p1 v26 q (k .ret fr_ref12_Check_9)) (s_ref12_Check_10_t cp n p0 p1 v26 k))
theorem s_ref12_Check_12_t {R : Type} (cp : Nat → Nat → Bool) (n : Nat) (p0 : (List SEntry)) (p1 : Bool) (v26 : Int) (k : Ex → FF → Option R) : X cp n i_ref12_Check_2 (fr_ref12_Check_6 p0 p1 v26) k = s_ref12_Check_12 cp n p0 p1 v26 (k .norm (fr_ref12_Check_6 p0 p1 v26)) (k .ret fr_ref12_Check_9) := (show X cp n i_ref12_Check_2 (fr_ref12_Check_6 p0 p1 v26) k = X cp n i_ref12_Check_1 (fr_ref12_Check_6 p0 p1 v26) (blkT 1 k) from by kernel_rfl).trans ((s_ref12_Check_11_t cp n p0 p1 v26 (blkT 1 k)).trans (by kernel_rfl))
def fr_ref12_Check_14 (p0 : (List SEntry)) (p1 : Bool) (v29 : Int) : FF := [(.row false (.rEntry p0)) :: (tB p1) :: (dT 3 ((tL v29) :: (dT 10 []))), dc, dc, dc, dc, dc]
theorem s_ref12_Check_13_t {R : Type} (cp : Nat → Nat → Bool) (n : Nat) (p0 : (List SEntry)) (p1 : Bool) (v26 : Int) (k : Ex → FF → Option R) : X cp n i_ref12_Check_3 (fr_ref12_Check_6 p0 p1 v26) k = s_ref12_Check_13 cp n p0 p1 v26 (fun v29 => k .norm (fr_ref12_Check_14 p0 p1 v29)) := by kernel_rfl
def fr_ref12_Check_15 (p0 : (List SEntry)) (p1 : Bool) (v30 : Int) : FF := [(.row false (.rEntry p0)) :: (tB p1) :: (dT 3 ((tL v30) :: (dT 10 []))), dc, dc, dc, dc, dc]
theorem s_ref12_Check_16_t {R : Type} (cp : Nat → Nat → Bool) (n : Nat) (p0 : (List SEntry)) (p1 : Bool) (v26 : Int) (k : Ex → FF → Option R) : X cp n i_ref12_Check_4 (fr_ref12_Check_6 p0 p1 v26) k = s_ref12_Check_16 cp n p0 p1 v26 (fun v30 => k .norm (fr_ref12_Check_15 p0 p1 v30)) (k .ret fr_ref12_Check_9) := (show X cp n i_ref12_Check_4 (fr_ref12_Check_6 p0 p1 v26) k = X cp n i_ref12_Check_2 (fr_ref12_Check_6 p0 p1 v26) (seqT (X cp n) i_ref12_Check_3 k) from by kernel_rfl).trans ((show X cp n i_ref12_Check_2 (fr_ref12_Check_6 p0 p1 v26) (seqT (X cp n) i_ref12_Check_3 k) = s_ref12_Check_12 cp n p0 p1 v26 (X cp n i_ref12_Check_3 (fr_ref12_Check_6 p0 p1 v26) k) (k .ret fr_ref12_Check_9) from (s_ref12_Check_12_t cp n p0 p1 v26 (seqT (X cp n) i_ref12_Check_3 k)).trans (by kernel_rfl)).trans (congrArg (fun q => s_ref12_Check_12 cp n p0 p1 v26 q (k .ret fr_ref12_Check_9)) ((s_ref12_Check_13_t cp n p0 p1 v26 k).trans (show s_ref12_Check_13 cp n p0 p1 v26 (fun v29 => k .norm (fr_ref12_Check_14 p0 p1 v29)) = s_ref12_Check_13 cp n p0 p1 v26 (fun v29 => k .norm (fr_ref12_Check_15 p0 p1 v29)) from by kernel_rfl))))
def fr_ref12_Check_17 (p0 : (List SEntry)) (p1 : Bool) (v31 : Int) : FF := [(.row false (.rEntry p0)) :: (tB p1) :: (dT 3 ((tL v31) :: (dT 10 []))), dc, dc, dc, dc, dc]
theorem s_ref12_Check_18_t {R : Type} (cp : Nat → Nat → Bool) (n : Nat) (p0 : (List SEntry)) (p1 : Bool) (v26 : Int) (k : Ex → FF → Option R) : X cp n i_ref12_Check_5 (fr_ref12_Check_6 p0 p1 v26) k = s_ref12_Check_18 cp n p0 p1 v26 (fun v31 => k .norm (fr_ref12_Check_17 p0 p1 v31)) (k .ret fr_ref12_Check_9) (k (.exit 0) fr_ref12_Check_7) := ((fun c => (show X cp n (.seq (.seq (.fin (.reg g_ref12_Check_2) [6, 7, 8] []) (.fin (.cond (.s 9) (.skip) (.clr [0, 1, 5, 9] [] (.exit 0))) [9] [])) c) (fr_ref12_Check_6 p0 p1 v26) k = s_ref12_Check_5 cp n p0 p1 v26 (X cp n c (fr_ref12_Check_6 p0 p1 v26) k) (k (.exit 0) fr_ref12_Check_7) from by kernel_rfl)) i_ref12_Check_4).trans (congrArg (fun q => s_ref12_Check_5 cp n p0 p1 v26 q (k (.exit 0) fr_ref12_Check_7)) ((s_ref12_Check_16_t cp n p0 p1 v26 k).trans (show s_ref12_Check_16 cp n p0 p1 v26 (fun v30 => k .norm (fr_ref12_Check_15 p0 p1 v30)) (k .ret fr_ref12_Check_9) = s_ref12_Check_16 cp n p0 p1 v26 (fun v30 => k .norm (fr_ref12_Check_17 p0 p1 v30)) (k .ret fr_ref12_Check_9) from by kernel_rfl)))
theorem l_ref12_Check_19_t {R : Type} (cp : Nat → Nat → Bool) (n : Nat) : ∀ (m : Nat) (p0 : (List SEntry)) (p1 : Bool) (v26 : Int) (k : Ex → FF → Option R), loopN2 (X cp n i_ref12_Check_5) m (fr_ref12_Check_6 p0 p1 v26) k = l_ref12_Check_19 cp n m p0 p1 v26 (k .ret fr_ref12_Check_9) (k (.exit 0) fr_ref12_Check_7)
  | 0, _, _, _, _ => rfl
  | m + 1, p0, p1, v26, k => (loopN2_succ (X cp n i_ref12_Check_5) m (fr_ref12_Check_6 p0 p1 v26) k).trans ((s_ref12_Check_18_t cp n p0 p1 v26 (loopT (X cp n i_ref12_Check_5) m k)).trans ((show s_ref12_Check_18 cp n p0 p1 v26 (fun v31 => loopT (X cp n i_ref12_Check_5) m k .norm (fr_ref12_Check_17 p0 p1 v31)) (loopT (X cp n i_ref12_Check_5) m k .ret fr_ref12_Check_9) (loopT (X cp n i_ref12_Check_5) m k (.exit 0) fr_ref12_Check_7) = s_ref12_Check_18 cp n p0 p1 v26 (fun v31 => loopN2 (X cp n i_ref12_Check_5) m (fr_ref12_Check_6 p0 p1 v31) k) (k .ret fr_ref12_Check_9) (k (.exit 0) fr_ref12_Check_7) from by kernel_rfl).trans (congrArg (fun q => s_ref12_Check_18 cp n p0 p1 v26 q (k .ret fr_ref12_Check_9) (k (.exit 0) fr_ref12_Check_7)) (funext fun v31 => l_ref12_Check_19_t cp n m p0 p1 v31 k))))
theorem s_ref12_Check_20_t {R : Type} (cp : Nat → Nat → Bool) (n : Nat) (p0 : (List SEntry)) (p1 : Bool) (k : Ex → FF → Option R) : X cp n i_ref12_Check_6 (fr_ref12_Check_4 p0 p1) k = s_ref12_Check_20 cp n p0 p1 (k .ret fr_ref12_Check_9) (k (.exit 0) fr_ref12_Check_7) := (show X cp n i_ref12_Check_6 (fr_ref12_Check_4 p0 p1) k = loopN2 (X cp n i_ref12_Check_5) n (fr_ref12_Check_6 p0 p1 0) k from by kernel_rfl).trans (l_ref12_Check_19_t cp n n p0 p1 0 k)
theorem s_ref12_Check_21_t {R : Type} (cp : Nat → Nat → Bool) (n : Nat) (p0 : (List SEntry)) (p1 : Bool) (k : Ex → FF → Option R) : X cp n i_ref12_Check_7 (fr_ref12_Check_4 p0 p1) k = s_ref12_Check_21 cp n p0 p1 (k .norm fr_ref12_Check_7) (k .ret fr_ref12_Check_9) := (show X cp n i_ref12_Check_7 (fr_ref12_Check_4 p0 p1) k = X cp n i_ref12_Check_6 (fr_ref12_Check_4 p0 p1) (blkT 0 k) from by kernel_rfl).trans ((s_ref12_Check_20_t cp n p0 p1 (blkT 0 k)).trans (by kernel_rfl))
theorem s_ref12_Check_22_t {R : Type} (cp : Nat → Nat → Bool) (n : Nat) (p0 : (List SEntry)) (p1 : Bool) (k : Ex → FF → Option R) : X cp n i_ref12_Check_8 (fr_ref12_Check_2 p0 p1) k = s_ref12_Check_22 cp n p0 p1 (k .norm fr_ref12_Check_7) (k .ret fr_ref12_Check_9) := ((fun c => (show X cp n (.seq (.reg g_ref12_Check_1) c) (fr_ref12_Check_2 p0 p1) k = s_ref12_Check_3 cp n p0 p1 (X cp n c (fr_ref12_Check_4 p0 p1) k) from by kernel_rfl)) i_ref12_Check_7).trans (congrArg (fun q => s_ref12_Check_3 cp n p0 p1 q) (s_ref12_Check_21_t cp n p0 p1 k))
def fr_ref12_Check_24 : FF := [dT 4 ((tL 0) :: (dT 11 [])), dc, dc, dc, dc, dc]
theorem s_ref12_Check_23_t {R : Type} (cp : Nat → Nat → Bool) (n : Nat) (k : Ex → FF → Option R) : X cp n i_ref12_Check_9 fr_ref12_Check_7 k = s_ref12_Check_23 cp n (k .ret fr_ref12_Check_24) := by kernel_rfl
def fr_ref12_Check_25 (v32 : Int) : FF := [dT 4 ((tL v32) :: (dT 11 [])), dc, dc, dc, dc, dc]
theorem s_ref12_Check_26_t {R : Type} (cp : Nat → Nat → Bool) (n : Nat) (p0 : (List SEntry)) (p1 : Bool) (k : Ex → FF → Option R) : X cp n i_ref12_Check_10 (fr_ref12_Check_2 p0 p1) k = s_ref12_Check_26 cp n p0 p1 (fun v32 => k .ret (fr_ref12_Check_25 v32)) := (show X cp n i_ref12_Check_10 (fr_ref12_Check_2 p0 p1) k = X cp n i_ref12_Check_8 (fr_ref12_Check_2 p0 p1) (seqT (X cp n) i_ref12_Check_9 k) from by kernel_rfl).trans ((show X cp n i_ref12_Check_8 (fr_ref12_Check_2 p0 p1) (seqT (X cp n) i_ref12_Check_9 k) = s_ref12_Check_22 cp n p0 p1 (X cp n i_ref12_Check_9 fr_ref12_Check_7 k) (k .ret (fr_ref12_Check_25 2)) from (s_ref12_Check_22_t cp n p0 p1 (seqT (X cp n) i_ref12_Check_9 k)).trans (by kernel_rfl)).trans (congrArg (fun q => s_ref12_Check_22 cp n p0 p1 q (k .ret (fr_ref12_Check_25 2))) ((s_ref12_Check_23_t cp n  k).trans (show s_ref12_Check_23 cp n (k .ret fr_ref12_Check_24) = s_ref12_Check_23 cp n (k .ret (fr_ref12_Check_25 0)) from by kernel_rfl))))
def fr_ref12_Check_27 (v33 : Int) : FF := [dT 4 ((tL v33) :: (dT 11 [])), dc, dc, dc, dc, dc]
theorem s_ref12_Check_28_t {R : Type} (cp : Nat → Nat → Bool) (n : Nat) (p0 : (List SEntry)) (p1 : Bool) (k : Ex → FF → Option R) : X cp n i_ref12_Check_11 (fr_ref12_Check_2 p0 p1) k = s_ref12_Check_28 cp n p0 p1 (fun v33 => k .ret (fr_ref12_Check_27 v33)) := ((fun c => (show X cp n (.seq (.fin (.reg g_ref12_Check_0) [4] []) c) (fr_ref12_Check_2 p0 p1) k = s_ref12_Check_1 cp n p0 p1 (X cp n c (fr_ref12_Check_2 p0 p1) k) from by kernel_rfl)) i_ref12_Check_10).trans (congrArg (fun q => s_ref12_Check_1 cp n p0 p1 q) ((s_ref12_Check_26_t cp n p0 p1 k).trans (show s_ref12_Check_26 cp n p0 p1 (fun v32 => k .ret (fr_ref12_Check_25 v32)) = s_ref12_Check_26 cp n p0 p1 (fun v32 => k .ret (fr_ref12_Check_27 v32)) from by kernel_rfl)))
theorem run_ref12_Check {R : Type} (cp : Nat → Nat → Bool) (n : Nat) (p0 : (List SEntry)) (p1 : Bool) (k : Ret2 RW → Option R) : G_ref12_Check cp (n + 1) p0 p1 (fun r0 => k ⟨(tL r0), []⟩) = run2 U cp (callP cp n) n fn_ref12_Check [.row false (.rEntry p0), (tB p1)] [] k := ((X_run (f := fn_ref12_Check) (av := [.row false (.rEntry p0), (tB p1)]) (cells := []) (code := i_ref12_Check_11) (fr := (fr_ref12_Check_2 p0 p1)) (k := k) (by kernel_rfl) (fun K => by kernel_rfl)).trans ((s_ref12_Check_28_t cp n p0 p1 (finK2 fn_ref12_Check k)).trans (by kernel_rfl))).symm
/-! tideway/tidewayref18.time -/
theorem run_ref18_time {R : Type} (cp : Nat → Nat → Bool) (n : Nat) (p0 : Int) (k : Ret2 RW → Option R) : G_ref18_time cp (n + 1) p0 (fun r0 => k ⟨(tB r0), []⟩) = run2 U cp (callP cp n) n fn_ref18_time [(tL p0)] [] k := by kernel_rfl
/-! tideway/tidewayref15.Size -/
theorem run_ref15_Size {R : Type} (cp : Nat → Nat → Bool) (n : Nat) (p0 : Int) (k : Ret2 RW → Option R) : G_ref15_Size cp (n + 1) p0 (fun r0 => k ⟨(tB r0), []⟩) = run2 U cp (callP cp n) n fn_ref15_Size [(tL p0)] [] k := by kernel_rfl
/-! tideway/tidewayref18.Check -/
def fr_ref18_Check_2 (p0 : SCc) : FF := [dT 1 ((.ptr 153 0) :: (dT 14 [])), dc, dc, dc, dc, dc, dc, dc, dc, dT 9 ((.hdr 22) :: (sl 0 6 (eCc p0))), sl 6 16 (eCc p0)]
def fr_ref18_Check_3 : FF := [dT 2 ((tL 230) :: (dT 13 [])), dc, dc, dc, dc, dc, dc, dc, dc, dc, dc]
def fr_ref18_Check_5 (p0 : SCc) (v32 : Bool) : FF := [dT 1 ((.ptr 153 0) :: (dT 14 [])), dc, dc, dc, dc, dT 13 ((tB v32) :: (dT 2 [])), dc, dc, dc, dT 9 ((.hdr 22) :: (sl 0 6 (eCc p0))), sl 6 16 (eCc p0)]
theorem s_ref18_Check_4_t {R : Type} (cp : Nat → Nat → Bool) (n : Nat) (p0 : SCc) (k : Ex → FF → Option R) : X cp n i_ref18_Check_0 (fr_ref18_Check_2 p0) k = s_ref18_Check_4 cp n p0 (fun v32 => k .norm (fr_ref18_Check_5 p0 v32)) := by kernel_rfl
theorem s_ref18_Check_6_t {R : Type} (cp : Nat → Nat → Bool) (n : Nat) (p0 : SCc) (v32 : Bool) (k : Ex → FF → Option R) : X cp n i_ref18_Check_1 (fr_ref18_Check_5 p0 v32) k = s_ref18_Check_6 cp n p0 v32 (k .norm (fr_ref18_Check_2 p0)) (k .ret fr_ref18_Check_3) := by kernel_rfl
theorem s_ref18_Check_7_t {R : Type} (cp : Nat → Nat → Bool) (n : Nat) (p0 : SCc) (k : Ex → FF → Option R) : X cp n i_ref18_Check_2 (fr_ref18_Check_2 p0) k = s_ref18_Check_7 cp n p0 (k .norm (fr_ref18_Check_2 p0)) (k .ret fr_ref18_Check_3) := (show X cp n i_ref18_Check_2 (fr_ref18_Check_2 p0) k = X cp n i_ref18_Check_0 (fr_ref18_Check_2 p0) (seqT (X cp n) i_ref18_Check_1 k) from by kernel_rfl).trans ((show X cp n i_ref18_Check_0 (fr_ref18_Check_2 p0) (seqT (X cp n) i_ref18_Check_1 k) = s_ref18_Check_4 cp n p0 (fun v32 => X cp n i_ref18_Check_1 (fr_ref18_Check_5 p0 v32) k) from (s_ref18_Check_4_t cp n p0 (seqT (X cp n) i_ref18_Check_1 k)).trans (by kernel_rfl)).trans (congrArg (fun q => s_ref18_Check_4 cp n p0 q) (funext fun v32 => s_ref18_Check_6_t cp n p0 v32 k)))
def fr_ref18_Check_9 (p0 : SCc) : FF := [dT 1 ((.ptr 153 0) :: (dT 1 ((tL 0) :: (dT 12 [])))), dc, dc, dc, dc, dc, dc, dc, dc, dT 9 ((.hdr 22) :: (sl 0 6 (eCc p0))), sl 6 16 (eCc p0)]
def fr_ref18_Check_11 (p0 : SCc) (v34 : Int) : FF := [dT 1 ((.ptr 153 0) :: (dT 1 ((tL v34) :: (dT 12 [])))), dc, dc, dc, dc, dc, dc, dc, dc, dT 9 ((.hdr 22) :: (sl 0 6 (eCc p0))), sl 6 16 (eCc p0)]
def fr_ref18_Check_12 (p0 : SCc) (v33 : Int) : FF := [dT 1 ((.ptr 153 0) :: (dT 1 ((tL v33) :: (dT 12 [])))), dc, dc, dc, dc, dc, dc, dc, dc, dT 9 ((.hdr 22) :: (sl 0 6 (eCc p0))), sl 6 16 (eCc p0)]
theorem s_ref18_Check_10_t {R : Type} (cp : Nat → Nat → Bool) (n : Nat) (p0 : SCc) (v33 : Int) (k : Ex → FF → Option R) : X cp n i_ref18_Check_3 (fr_ref18_Check_12 p0 v33) k = s_ref18_Check_10 cp n p0 v33 (fun v34 => k .norm (fr_ref18_Check_11 p0 v34)) (k .ret fr_ref18_Check_3) (k (.exit 0) (fr_ref18_Check_2 p0)) := by kernel_rfl
theorem l_ref18_Check_13_t {R : Type} (cp : Nat → Nat → Bool) (n : Nat) : ∀ (m : Nat) (p0 : SCc) (v33 : Int) (k : Ex → FF → Option R), loopN2 (X cp n i_ref18_Check_3) m (fr_ref18_Check_12 p0 v33) k = l_ref18_Check_13 cp n m p0 v33 (k .ret fr_ref18_Check_3) (k (.exit 0) (fr_ref18_Check_2 p0))
  | 0, _, _, _ => rfl
  | m + 1, p0, v33, k => (loopN2_succ (X cp n i_ref18_Check_3) m (fr_ref18_Check_12 p0 v33) k).trans ((s_ref18_Check_10_t cp n p0 v33 (loopT (X cp n i_ref18_Check_3) m k)).trans ((show s_ref18_Check_10 cp n p0 v33 (fun v34 => loopT (X cp n i_ref18_Check_3) m k .norm (fr_ref18_Check_11 p0 v34)) (loopT (X cp n i_ref18_Check_3) m k .ret fr_ref18_Check_3) (loopT (X cp n i_ref18_Check_3) m k (.exit 0) (fr_ref18_Check_2 p0)) = s_ref18_Check_10 cp n p0 v33 (fun v34 => loopN2 (X cp n i_ref18_Check_3) m (fr_ref18_Check_12 p0 v34) k) (k .ret fr_ref18_Check_3) (k (.exit 0) (fr_ref18_Check_2 p0)) from by kernel_rfl).trans (congrArg (fun q => s_ref18_Check_10 cp n p0 v33 q (k .ret fr_ref18_Check_3) (k (.exit 0) (fr_ref18_Check_2 p0))) (funext fun v34 => l_ref18_Check_13_t cp n m p0 v34 k))))
theorem s_ref18_Check_14_t {R : Type} (cp : Nat → Nat → Bool) (n : Nat) (p0 : SCc) (k : Ex → FF → Option R) : X cp n i_ref18_Check_4 (fr_ref18_Check_9 p0) k = s_ref18_Check_14 cp n p0 (k .ret fr_ref18_Check_3) (k (.exit 0) (fr_ref18_Check_2 p0)) := (show X cp n i_ref18_Check_4 (fr_ref18_Check_9 p0) k = loopN2 (X cp n i_ref18_Check_3) n (fr_ref18_Check_12 p0 0) k from by kernel_rfl).trans (l_ref18_Check_13_t cp n n p0 0 k)
theorem s_ref18_Check_15_t {R : Type} (cp : Nat → Nat → Bool) (n : Nat) (p0 : SCc) (k : Ex → FF → Option R) : X cp n i_ref18_Check_5 (fr_ref18_Check_9 p0) k = s_ref18_Check_15 cp n p0 (k .norm (fr_ref18_Check_2 p0)) (k .ret fr_ref18_Check_3) := (show X cp n i_ref18_Check_5 (fr_ref18_Check_9 p0) k = X cp n i_ref18_Check_4 (fr_ref18_Check_9 p0) (blkT 0 k) from by kernel_rfl).trans ((s_ref18_Check_14_t cp n p0 (blkT 0 k)).trans (by kernel_rfl))
theorem s_ref18_Check_16_t {R : Type} (cp : Nat → Nat → Bool) (n : Nat) (p0 : SCc) (k : Ex → FF → Option R) : X cp n i_ref18_Check_6 (fr_ref18_Check_2 p0) k = s_ref18_Check_16 cp n p0 (k .norm (fr_ref18_Check_2 p0)) (k .ret fr_ref18_Check_3) := ((fun c => (show X cp n (.seq (.reg g_ref18_Check_5) c) (fr_ref18_Check_2 p0) k = s_ref18_Check_8 cp n p0 (X cp n c (fr_ref18_Check_9 p0) k) from by kernel_rfl)) i_ref18_Check_5).trans (congrArg (fun q => s_ref18_Check_8 cp n p0 q) (s_ref18_Check_15_t cp n p0 k))
def fr_ref18_Check_18 (v36 : Int) : FF := [dT 2 ((tL v36) :: (dT 13 [])), dc, dc, dc, dc, dc, dc, dc, dc, dc, dc]
theorem s_ref18_Check_17_t {R : Type} (cp : Nat → Nat → Bool) (n : Nat) (p0 : SCc) (k : Ex → FF → Option R) : X cp n i_ref18_Check_7 (fr_ref18_Check_2 p0) k = s_ref18_Check_17 cp n p0 (fun v36 => k .ret (fr_ref18_Check_18 v36)) := by kernel_rfl
def fr_ref18_Check_19 (v37 : Int) : FF := [dT 2 ((tL v37) :: (dT 13 [])), dc, dc, dc, dc, dc, dc, dc, dc, dc, dc]
theorem s_ref18_Check_20_t {R : Type} (cp : Nat → Nat → Bool) (n : Nat) (p0 : SCc) (k : Ex → FF → Option R) : X cp n i_ref18_Check_8 (fr_ref18_Check_2 p0) k = s_ref18_Check_20 cp n p0 (fun v37 => k .ret (fr_ref18_Check_19 v37)) := (show X cp n i_ref18_Check_8 (fr_ref18_Check_2 p0) k = X cp n i_ref18_Check_6 (fr_ref18_Check_2 p0) (seqT (X cp n) i_ref18_Check_7 k) from by kernel_rfl).trans ((show X cp n i_ref18_Check_6 (fr_ref18_Check_2 p0) (seqT (X cp n) i_ref18_Check_7 k) = s_ref18_Check_16 cp n p0 (X cp n i_ref18_Check_7 (fr_ref18_Check_2 p0) k) (k .ret (fr_ref18_Check_19 230)) from (s_ref18_Check_16_t cp n p0 (seqT (X cp n) i_ref18_Check_7 k)).trans (by kernel_rfl)).trans (congrArg (fun q => s_ref18_Check_16 cp n p0 q (k .ret (fr_ref18_Check_19 230))) ((s_ref18_Check_17_t cp n p0 k).trans (show s_ref18_Check_17 cp n p0 (fun v36 => k .ret (fr_ref18_Check_18 v36)) = s_ref18_Check_17 cp n p0 (fun v36 => k .ret (fr_ref18_Check_19 v36)) from by kernel_rfl))))
def fr_ref18_Check_21 (v38 : Int) : FF := [dT 2 ((tL v38) :: (dT 13 [])), dc, dc, dc, dc, dc, dc, dc, dc, dc, dc]
theorem s_ref18_Check_22_t {R : Type} (cp : Nat → Nat → Bool) (n : Nat) (p0 : SCc) (k : Ex → FF → Option R) : X cp n i_ref18_Check_9 (fr_ref18_Check_2 p0) k = s_ref18_Check_22 cp n p0 (fun v38 => k .ret (fr_ref18_Check_21 v38)) := (show X cp n i_ref18_Check_9 (fr_ref18_Check_2 p0) k = X cp n i_ref18_Check_2 (fr_ref18_Check_2 p0) (seqT (X cp n) i_ref18_Check_8 k) from by kernel_rfl).trans ((show X cp n i_ref18_Check_2 (fr_ref18_Check_2 p0) (seqT (X cp n) i_ref18_Check_8 k) = s_ref18_Check_7 cp n p0 (X cp n i_ref18_Check_8 (fr_ref18_Check_2 p0) k) (k .ret (fr_ref18_Check_21 230)) from (s_ref18_Check_7_t cp n p0 (seqT (X cp n) i_ref18_Check_8 k)).trans (by kernel_rfl)).trans (congrArg (fun q => s_ref18_Check_7 cp n p0 q (k .ret (fr_ref18_Check_21 230))) ((s_ref18_Check_20_t cp n p0 k).trans (show s_ref18_Check_20 cp n p0 (fun v37 => k .ret (fr_ref18_Check_19 v37)) = s_ref18_Check_20 cp n p0 (fun v37 => k .ret (fr_ref18_Check_21 v37)) from by kernel_rfl))))
def fr_ref18_Check_23 (v39 : Int) : FF := [dT 2 ((tL v39) :: (dT 13 [])), dc, dc, dc, dc, dc, dc, dc, dc, dc, dc]
def fr_ref18_Check_25 (p0 : SCc) : FF := [(.agg (eCc p0)) :: (dT 15 []), dc, dc, dc, dc, dc, dc, dc, dc, dc, dc]
theorem s_ref18_Check_24_t {R : Type} (cp : Nat → Nat → Bool) (n : Nat) (p0 : SCc) (k : Ex → FF → Option R) : X cp n i_ref18_Check_10 (fr_ref18_Check_25 p0) k = s_ref18_Check_24 cp n p0 (fun v39 => k .ret (fr_ref18_Check_23 v39)) := ((fun c => (show X cp n (.seq (.fin (.reg g_ref18_Check_0) [0, 2] []) (.seq (.seq (.fin (.reg g_ref18_Check_1) [4, 5, 6, 7, 8, 9, 10, 11, 12, 13, 14, 15, 16, 17, 18, 19, 20, 21, 22, 23, 24, 25, 26, 27, 28, 29, 30, 31, 32, 33, 34, 35, 36, 37, 38, 39, 40, 41, 42] []) (.fin (.cond (.s 43) (.seq (.fin (.reg g_ref18_Check_2) [1, 43] [(153, 22)]) (.ret)) (.skip)) [43] [])) c)) (fr_ref18_Check_25 p0) k = s_ref18_Check_1 cp n p0 (X cp n c (fr_ref18_Check_2 p0) k) (k .ret (fr_ref18_Check_23 230)) from by kernel_rfl)) i_ref18_Check_9).trans (congrArg (fun q => s_ref18_Check_1 cp n p0 q (k .ret (fr_ref18_Check_23 230))) ((s_ref18_Check_22_t cp n p0 k).trans (show s_ref18_Check_22 cp n p0 (fun v38 => k .ret (fr_ref18_Check_21 v38)) = s_ref18_Check_22 cp n p0 (fun v38 => k .ret (fr_ref18_Check_23 v38)) from by kernel_rfl)))
theorem run_ref18_Check {R : Type} (cp : Nat → Nat → Bool) (n : Nat) (p0 : SCc) (k : Ret2 RW → Option R) : G_ref18_Check cp (n + 1) p0 (fun r0 => k ⟨(tL r0), []⟩) = run2 U cp (callP cp n) n fn_ref18_Check [.agg (eCc p0)] [] k := ((X_run (f := fn_ref18_Check) (av := [.agg (eCc p0)]) (cells := []) (code := i_ref18_Check_10) (fr := (fr_ref18_Check_25 p0)) (k := k) (by kernel_rfl) (fun K => by kernel_rfl)).trans ((s_ref18_Check_24_t cp n p0 (finK2 fn_ref18_Check k)).trans (by kernel_rfl))).symm
/-! tideway/tidewayref18.Timeout -/
theorem run_ref18_Timeout {R : Type} (cp : Nat → Nat → Bool) (n : Nat) (p0 : SCc) (p1 : Int) (k : Ret2 RW → Option R) : G_ref18_Timeout cp (n + 1) p0 p1 (fun r0 r1 => k ⟨.tup [.agg (eCc r0), (tL r1)], []⟩) = run2 U cp (callP cp n) n fn_ref18_Timeout [.agg (eCc p0), (tL p1)] [] k := by kernel_rfl
/-! tideway/reno.New -/
theorem run_reno_New {R : Type} (cp : Nat → Nat → Bool) (n : Nat) (p0 p1 : Int) (k : Ret2 RW → Option R) : G_reno_New cp (n + 1) p0 p1 (fun r0 r1 => k ⟨.tup [.agg (eCc r0), (tL r1)], []⟩) = run2 U cp (callP cp n) n fn_reno_New [(tL p0), (tL p1)] [] k := by kernel_rfl
/-! tideway/bbr.New -/
theorem run_bbr_New {R : Type} (cp : Nat → Nat → Bool) (n : Nat) (p0 p1 : Int) (k : Ret2 RW → Option R) : G_bbr_New cp (n + 1) p0 p1 (fun r0 r1 => k ⟨.tup [.agg (eCc r0), (tL r1)], []⟩) = run2 U cp (callP cp n) n fn_bbr_New [(tL p0), (tL p1)] [] k := by kernel_rfl
/-! tideway/tidewayref15.New -/
theorem run_ref15_New {R : Type} (cp : Nat → Nat → Bool) (n : Nat) (p0 p1 : Int) (k : Ret2 RW → Option R) : G_ref15_New cp (n + 1) p0 p1 (fun r0 r1 => k ⟨.tup [.agg (eCc r0), (tL r1)], []⟩) = run2 U cp (callP cp n) n fn_ref15_New [(tL p0), (tL p1)] [] k := by kernel_rfl
/-! tideway/tidewayref18.New -/
theorem run_ref18_New {R : Type} (cp : Nat → Nat → Bool) (n : Nat) (p0 p1 : Int) (k : Ret2 RW → Option R) : G_ref18_New cp (n + 1) p0 p1 (fun r0 r1 => k ⟨.tup [.agg (eCc r0), (tL r1)], []⟩) = run2 U cp (callP cp n) n fn_ref18_New [(tL p0), (tL p1)] [] k := by kernel_rfl
/-! tideway/tidewayref15.Same -/
def fr_ref15_Same_2 (p0 p1 : SCc) : FF := [dT 2 ((.ptr 176 0) :: (.ptr 199 0) :: (dT 12 [])), dc, dc, dc, dc, dc, dc, dc, dc, dc, dc, (.hdr 22) :: (sl 0 15 (eCc p0)), sl 15 7 (eCc p0) ++ ((.hdr 22) :: (sl 0 8 (eCc p1))), sl 8 14 (eCc p1) ++ (dT 2 [])]
def fr_ref15_Same_3 : FF := [dT 4 ((tB false) :: (dT 11 [])), dc, dc, dc, dc, dc, dc, dc, dc, dc, dc, dc, dc, dc]
def fr_ref15_Same_6 (p0 p1 : SCc) : FF := [dT 2 ((.ptr 176 0) :: (.ptr 199 0) :: (dT 1 ((tL 0) :: (dT 10 [])))), dc, dc, dc, dc, dc, dc, dc, dc, dc, dc, (.hdr 22) :: (sl 0 15 (eCc p0)), sl 15 7 (eCc p0) ++ ((.hdr 22) :: (sl 0 8 (eCc p1))), sl 8 14 (eCc p1) ++ (dT 2 [])]
def fr_ref15_Same_8 (p0 p1 : SCc) (v53 : Int) : FF := [dT 2 ((.ptr 176 0) :: (.ptr 199 0) :: (dT 1 ((tL v53) :: (dT 10 [])))), dc, dc, dc, dc, dc, dc, dc, dc, dc, dc, (.hdr 22) :: (sl 0 15 (eCc p0)), sl 15 7 (eCc p0) ++ ((.hdr 22) :: (sl 0 8 (eCc p1))), sl 8 14 (eCc p1) ++ (dT 2 [])]
def fr_ref15_Same_9 : FF := [dc, dc, dc, dc, dc, dc, dc, dc, dc, dc, dc, dc, dc, dc]
def fr_ref15_Same_10 (p0 p1 : SCc) (v52 : Int) : FF := [dT 2 ((.ptr 176 0) :: (.ptr 199 0) :: (dT 1 ((tL v52) :: (dT 10 [])))), dc, dc, dc, dc, dc, dc, dc, dc, dc, dc, (.hdr 22) :: (sl 0 15 (eCc p0)), sl 15 7 (eCc p0) ++ ((.hdr 22) :: (sl 0 8 (eCc p1))), sl 8 14 (eCc p1) ++ (dT 2 [])]
theorem s_ref15_Same_7_t {R : Type} (cp : Nat → Nat → Bool) (n : Nat) (p0 p1 : SCc) (v52 : Int) (k : Ex → FF → Option R) : X cp n i_ref15_Same_0 (fr_ref15_Same_10 p0 p1 v52) k = s_ref15_Same_7 cp n p0 p1 v52 (fun v53 => k .norm (fr_ref15_Same_8 p0 p1 v53)) (k .ret fr_ref15_Same_3) (k (.exit 0) fr_ref15_Same_9) := by kernel_rfl
theorem l_ref15_Same_11_t {R : Type} (cp : Nat → Nat → Bool) (n : Nat) : ∀ (m : Nat) (p0 p1 : SCc) (v52 : Int) (k : Ex → FF → Option R), loopN2 (X cp n i_ref15_Same_0) m (fr_ref15_Same_10 p0 p1 v52) k = l_ref15_Same_11 cp n m p0 p1 v52 (k .ret fr_ref15_Same_3) (k (.exit 0) fr_ref15_Same_9)
  | 0, _, _, _, _ => rfl
  | m + 1, p0, p1, v52, k => (loopN2_succ (X cp n i_ref15_Same_0) m (fr_ref15_Same_10 p0 p1 v52) k).trans ((s_ref15_Same_7_t cp n p0 p1 v52 (loopT (X cp n i_ref15_Same_0) m k)).trans ((show s_ref15_Same_7 cp n p0 p1 v52 (fun v53 => loopT (X cp n i_ref15_Same_0) m k .norm (fr_ref15_Same_8 p0 p1 v53)) (loopT (X cp n i_ref15_Same_0) m k .ret fr_ref15_Same_3) (loopT (X cp n i_ref15_Same_0) m k (.exit 0) fr_ref15_Same_9) = s_ref15_Same_7 cp n p0 p1 v52 (fun v53 => loopN2 (X cp n i_ref15_Same_0) m (fr_ref15_Same_10 p0 p1 v53) k) (k .ret fr_ref15_Same_3) (k (.exit 0) fr_ref15_Same_9) from by kernel_rfl).trans (congrArg (fun q => s_ref15_Same_7 cp n p0 p1 v52 q (k .ret fr_ref15_Same_3) (k (.exit 0) fr_ref15_Same_9)) (funext fun v53 => l_ref15_Same_11_t cp n m p0 p1 v53 k))))
theorem s_ref15_Same_12_t {R : Type} (cp : Nat → Nat → Bool) (n : Nat) (p0 p1 : SCc) (k : Ex → FF → Option R) : X cp n i_ref15_Same_1 (fr_ref15_Same_6 p0 p1) k = s_ref15_Same_12 cp n p0 p1 (k .ret fr_ref15_Same_3) (k (.exit 0) fr_ref15_Same_9) := (show X cp n i_ref15_Same_1 (fr_ref15_Same_6 p0 p1) k = loopN2 (X cp n i_ref15_Same_0) n (fr_ref15_Same_10 p0 p1 0) k from by kernel_rfl).trans (l_ref15_Same_11_t cp n n p0 p1 0 k)
theorem s_ref15_Same_13_t {R : Type} (cp : Nat → Nat → Bool) (n : Nat) (p0 p1 : SCc) (k : Ex → FF → Option R) : X cp n i_ref15_Same_2 (fr_ref15_Same_6 p0 p1) k = s_ref15_Same_13 cp n p0 p1 (k .norm fr_ref15_Same_9) (k .ret fr_ref15_Same_3) := (show X cp n i_ref15_Same_2 (fr_ref15_Same_6 p0 p1) k = X cp n i_ref15_Same_1 (fr_ref15_Same_6 p0 p1) (blkT 0 k) from by kernel_rfl).trans ((s_ref15_Same_12_t cp n p0 p1 (blkT 0 k)).trans (by kernel_rfl))
theorem s_ref15_Same_14_t {R : Type} (cp : Nat → Nat → Bool) (n : Nat) (p0 p1 : SCc) (k : Ex → FF → Option R) : X cp n i_ref15_Same_3 (fr_ref15_Same_2 p0 p1) k = s_ref15_Same_14 cp n p0 p1 (k .norm fr_ref15_Same_9) (k .ret fr_ref15_Same_3) := ((fun c => (show X cp n (.seq (.reg g_ref15_Same_5) c) (fr_ref15_Same_2 p0 p1) k = s_ref15_Same_5 cp n p0 p1 (X cp n c (fr_ref15_Same_6 p0 p1) k) from by kernel_rfl)) i_ref15_Same_2).trans (congrArg (fun q => s_ref15_Same_5 cp n p0 p1 q) (s_ref15_Same_13_t cp n p0 p1 k))
def fr_ref15_Same_16 : FF := [dT 4 ((tB true) :: (dT 11 [])), dc, dc, dc, dc, dc, dc, dc, dc, dc, dc, dc, dc, dc]
theorem s_ref15_Same_15_t {R : Type} (cp : Nat → Nat → Bool) (n : Nat) (k : Ex → FF → Option R) : X cp n i_ref15_Same_4 fr_ref15_Same_9 k = s_ref15_Same_15 cp n (k .ret fr_ref15_Same_16) := by kernel_rfl
def fr_ref15_Same_17 (v54 : Bool) : FF := [dT 4 ((tB v54) :: (dT 11 [])), dc, dc, dc, dc, dc, dc, dc, dc, dc, dc, dc, dc, dc]
theorem s_ref15_Same_18_t {R : Type} (cp : Nat → Nat → Bool) (n : Nat) (p0 p1 : SCc) (k : Ex → FF → Option R) : X cp n i_ref15_Same_5 (fr_ref15_Same_2 p0 p1) k = s_ref15_Same_18 cp n p0 p1 (fun v54 => k .ret (fr_ref15_Same_17 v54)) := (show X cp n i_ref15_Same_5 (fr_ref15_Same_2 p0 p1) k = X cp n i_ref15_Same_3 (fr_ref15_Same_2 p0 p1) (seqT (X cp n) i_ref15_Same_4 k) from by kernel_rfl).trans ((show X cp n i_ref15_Same_3 (fr_ref15_Same_2 p0 p1) (seqT (X cp n) i_ref15_Same_4 k) = s_ref15_Same_14 cp n p0 p1 (X cp n i_ref15_Same_4 fr_ref15_Same_9 k) (k .ret (fr_ref15_Same_17 false)) from (s_ref15_Same_14_t cp n p0 p1 (seqT (X cp n) i_ref15_Same_4 k)).trans (by kernel_rfl)).trans (congrArg (fun q => s_ref15_Same_14 cp n p0 p1 q (k .ret (fr_ref15_Same_17 false))) ((s_ref15_Same_15_t cp n  k).trans (show s_ref15_Same_15 cp n (k .ret fr_ref15_Same_16) = s_ref15_Same_15 cp n (k .ret (fr_ref15_Same_17 true)) from by kernel_rfl))))
def fr_ref15_Same_19 (v55 : Bool) : FF := [dT 4 ((tB v55) :: (dT 11 [])), dc, dc, dc, dc, dc, dc, dc, dc, dc, dc, dc, dc, dc]
theorem s_ref15_Same_20_t {R : Type} (cp : Nat → Nat → Bool) (n : Nat) (p0 p1 : SCc) (k : Ex → FF → Option R) : X cp n i_ref15_Same_6 (fr_ref15_Same_2 p0 p1) k = s_ref15_Same_20 cp n p0 p1 (fun v55 => k .ret (fr_ref15_Same_19 v55)) := ((fun c => (show X cp n (.seq (.seq (.fin (.reg g_ref15_Same_3) [74, 75, 76, 77, 78, 79, 80, 81, 82, 83, 84, 85, 86, 87, 88, 89, 90, 91, 92, 93, 94, 95, 96, 97, 98, 99, 100, 101, 102, 103, 104, 105, 106, 107, 108, 109, 110, 111, 112, 113, 114, 115, 116, 117, 118, 119, 120, 121, 122, 123, 124, 125, 126, 127, 128, 129, 130, 131, 132, 133, 134, 135, 136, 137, 138, 139, 140, 141, 142, 143, 144, 145, 146, 147, 148, 149, 150, 151, 152, 153, 154, 155, 156] []) (.fin (.cond (.s 157) (.seq (.fin (.reg g_ref15_Same_4) [2, 3, 157] [(176, 22), (199, 22)]) (.ret)) (.skip)) [157] [])) c) (fr_ref15_Same_2 p0 p1) k = s_ref15_Same_4 cp n p0 p1 (X cp n c (fr_ref15_Same_2 p0 p1) k) (k .ret (fr_ref15_Same_19 false)) from by kernel_rfl)) i_ref15_Same_5).trans (congrArg (fun q => s_ref15_Same_4 cp n p0 p1 q (k .ret (fr_ref15_Same_19 false))) ((s_ref15_Same_18_t cp n p0 p1 k).trans (show s_ref15_Same_18 cp n p0 p1 (fun v54 => k .ret (fr_ref15_Same_17 v54)) = s_ref15_Same_18 cp n p0 p1 (fun v54 => k .ret (fr_ref15_Same_19 v54)) from by kernel_rfl)))
def fr_ref15_Same_21 (v56 : Bool) : FF := [dT 4 ((tB v56) :: (dT 11 [])), dc, dc, dc, dc, dc, dc, dc, dc, dc, dc, dc, dc, dc]
def fr_ref15_Same_23 (p0 p1 : SCc) : FF := [(.agg (eCc p0)) :: (.agg (eCc p1)) :: (dT 14 []), dc, dc, dc, dc, dc, dc, dc, dc, dc, dc, dc, dc, dc]
theorem s_ref15_Same_22_t {R : Type} (cp : Nat → Nat → Bool) (n : Nat) (p0 p1 : SCc) (k : Ex → FF → Option R) : X cp n i_ref15_Same_7 (fr_ref15_Same_23 p0 p1) k = s_ref15_Same_22 cp n p0 p1 (fun v56 => k .ret (fr_ref15_Same_21 v56)) := ((fun c => (show X cp n (.seq (.fin (.reg g_ref15_Same_0) [0, 1, 4] []) (.seq (.seq (.fin (.reg g_ref15_Same_1) [6, 7, 8, 9, 10, 11, 12, 13, 14, 15, 16, 17, 18, 19, 20, 21, 22, 23, 24, 25, 26, 27, 28, 29, 30, 31, 32, 33, 34, 35, 36, 37, 38, 39, 40, 41, 42, 43, 44, 45, 46, 47, 48, 49, 50, 51, 52, 53, 54, 55, 56, 57, 58, 59, 60, 61, 62, 63, 64, 65, 66, 67, 68, 69, 70, 71, 72] []) (.fin (.cond (.s 73) (.seq (.fin (.reg g_ref15_Same_2) [2, 3, 73] [(176, 22), (199, 22)]) (.ret)) (.skip)) [73] [])) c)) (fr_ref15_Same_23 p0 p1) k = s_ref15_Same_1 cp n p0 p1 (X cp n c (fr_ref15_Same_2 p0 p1) k) (k .ret (fr_ref15_Same_21 false)) from by kernel_rfl)) i_ref15_Same_6).trans (congrArg (fun q => s_ref15_Same_1 cp n p0 p1 q (k .ret (fr_ref15_Same_21 false))) ((s_ref15_Same_20_t cp n p0 p1 k).trans (show s_ref15_Same_20 cp n p0 p1 (fun v55 => k .ret (fr_ref15_Same_19 v55)) = s_ref15_Same_20 cp n p0 p1 (fun v55 => k .ret (fr_ref15_Same_21 v55)) from by kernel_rfl)))
theorem run_ref15_Same {R : Type} (cp : Nat → Nat → Bool) (n : Nat) (p0 p1 : SCc) (k : Ret2 RW → Option R) : G_ref15_Same cp (n + 1) p0 p1 (fun r0 => k ⟨(tB r0), []⟩) = run2 U cp (callP cp n) n fn_ref15_Same [.agg (eCc p0), .agg (eCc p1)] [] k := ((X_run (f := fn_ref15_Same) (av := [.agg (eCc p0), .agg (eCc p1)]) (cells := []) (code := i_ref15_Same_7) (fr := (fr_ref15_Same_23 p0 p1)) (k := k) (by kernel_rfl) (fun K => by kernel_rfl)).trans ((s_ref15_Same_22_t cp n p0 p1 (finK2 fn_ref15_Same k)).trans (by kernel_rfl))).symm
/-! (*tideway/bbr.ctl).round -/
theorem run_bbr_ctl_round {R : Type} (cp : Nat → Nat → Bool) (n : Nat) (p1 : SSample) (q0 : Sctl) (k : Ret2 RW → Option R) : G_bbr_ctl_round cp (n + 1) p1 q0 (fun r0 r1 => k ⟨(tB r0), [(ectl r1)]⟩) = run2 U cp (callP cp n) n fn_bbr_ctl_round [.ptr 30 0, .agg (eSample p1)] [(ectl q0)] k := by kernel_rfl
/-! tideway/filter.Best -/
theorem run_filter_Best {R : Type} (cp : Nat → Nat → Bool) (n : Nat) (p0 : (List SEntry)) (k : Ret2 RW → Option R) : G_filter_Best cp (n + 1) p0 (fun r0 r1 => k ⟨.tup [(tL r0), (tB r1)], []⟩) = run2 U cp (callP cp n) n fn_filter_Best [.row false (.rEntry p0)] [] k := by kernel_rfl
/-! (*tideway/bbr.ctl).bandwidth -/
theorem run_bbr_ctl_bandwidth {R : Type} (cp : Nat → Nat → Bool) (n : Nat) (q0 : Sctl) (k : Ret2 RW → Option R) : G_bbr_ctl_bandwidth cp (n + 1) q0 (fun r0 r1 => k ⟨(tL r0), [(ectl r1)]⟩) = run2 U cp (callP cp n) n fn_bbr_ctl_bandwidth [.ptr 15 0] [(ectl q0)] k := by kernel_rfl
/-! tideway/filter.Put -/
def fr_filter_Put_2 (p0 : (List SEntry)) (p1 p2 p3 : Int) (p4 : Bool) (v48 : Int) : FF := [(.row false (.rEntry p0)) :: (tL p1) :: (tL p2) :: (tL p3) :: (tB p4) :: (dT 7 ((.ptr 91 0) :: (tL 0) :: (tL v48) :: (dT 1 []))), dc, dc, dc, dc, dT 11 ((.hdr 2) :: (tL p1) :: (tL p2) :: (dT 2 []))]
def fr_filter_Put_3 : FF := [dT 10 ((.row false (.rEntry [])) :: (tL 2) :: (dT 4 [])), dc, dc, dc, dc, dc]
def fr_filter_Put_5 (p0 : (List SEntry)) (p1 p2 p3 : Int) (p4 : Bool) (v48 v50 : Int) : FF := [(.row false (.rEntry p0)) :: (tL p1) :: (tL p2) :: (tL p3) :: (tB p4) :: (dT 7 ((.ptr 91 0) :: (tL v50) :: (tL v48) :: (dT 1 []))), dc, dc, dc, dc, dT 11 ((.hdr 2) :: (tL p1) :: (tL p2) :: (dT 2 []))]
def fr_filter_Put_6 (p0 : (List SEntry)) (p1 p2 : Int) (p4 : Bool) (v48 v49 : Int) : FF := [(.row false (.rEntry p0)) :: (dT 1 ((tL p2) :: (dT 1 ((tB p4) :: (dT 7 ((.ptr 91 0) :: (tL v49) :: (tL v48) :: (dT 1 []))))))), dc, dc, dc, dc, dT 11 ((.hdr 2) :: (tL p1) :: (tL p2) :: (dT 2 []))]
def fr_filter_Put_7 (p0 : (List SEntry)) (p1 p2 p3 : Int) (p4 : Bool) (v48 v49 : Int) : FF := [(.row false (.rEntry p0)) :: (tL p1) :: (tL p2) :: (tL p3) :: (tB p4) :: (dT 7 ((.ptr 91 0) :: (tL v49) :: (tL v48) :: (dT 1 []))), dc, dc, dc, dc, dT 11 ((.hdr 2) :: (tL p1) :: (tL p2) :: (dT 2 []))]
theorem s_filter_Put_4_t {R : Type} (cp : Nat → Nat → Bool) (n : Nat) (p0 : (List SEntry)) (p1 p2 p3 : Int) (p4 : Bool) (v48 v49 : Int) (k : Ex → FF → Option R) : X cp n i_filter_Put_0 (fr_filter_Put_7 p0 p1 p2 p3 p4 v48 v49) k = s_filter_Put_4 cp n p0 p1 p2 p3 p4 v48 v49 (fun v50 => k .norm (fr_filter_Put_5 p0 p1 p2 p3 p4 v48 v50)) (k (.exit 0) (fr_filter_Put_6 p0 p1 p2 p4 v48 v49)) := by kernel_rfl
def fr_filter_Put_8 (p0 : (List SEntry)) (p1 p2 : Int) (p4 : Bool) (v48 v51 : Int) : FF := [(.row false (.rEntry p0)) :: (dT 1 ((tL p2) :: (dT 1 ((tB p4) :: (dT 7 ((.ptr 91 0) :: (tL v51) :: (tL v48) :: (dT 1 []))))))), dc, dc, dc, dc, dT 11 ((.hdr 2) :: (tL p1) :: (tL p2) :: (dT 2 []))]
theorem l_filter_Put_9_t {R : Type} (cp : Nat → Nat → Bool) (n : Nat) : ∀ (m : Nat) (p0 : (List SEntry)) (p1 p2 p3 : Int) (p4 : Bool) (v48 v49 : Int) (k : Ex → FF → Option R), loopN2 (X cp n i_filter_Put_0) m (fr_filter_Put_7 p0 p1 p2 p3 p4 v48 v49) k = l_filter_Put_9 cp n m p0 p1 p2 p3 p4 v48 v49 (fun v51 => k (.exit 0) (fr_filter_Put_8 p0 p1 p2 p4 v48 v51))
  | 0, _, _, _, _, _, _, _, _ => rfl
  | m + 1, p0, p1, p2, p3, p4, v48, v49, k => (loopN2_succ (X cp n i_filter_Put_0) m (fr_filter_Put_7 p0 p1 p2 p3 p4 v48 v49) k).trans ((s_filter_Put_4_t cp n p0 p1 p2 p3 p4 v48 v49 (loopT (X cp n i_filter_Put_0) m k)).trans ((show s_filter_Put_4 cp n p0 p1 p2 p3 p4 v48 v49 (fun v50 => loopT (X cp n i_filter_Put_0) m k .norm (fr_filter_Put_5 p0 p1 p2 p3 p4 v48 v50)) (loopT (X cp n i_filter_Put_0) m k (.exit 0) (fr_filter_Put_6 p0 p1 p2 p4 v48 v49)) = s_filter_Put_4 cp n p0 p1 p2 p3 p4 v48 v49 (fun v50 => loopN2 (X cp n i_filter_Put_0) m (fr_filter_Put_7 p0 p1 p2 p3 p4 v48 v50) k) (k (.exit 0) (fr_filter_Put_8 p0 p1 p2 p4 v48 v49)) from by kernel_rfl).trans (congrArg (fun q => s_filter_Put_4 cp n p0 p1 p2 p3 p4 v48 v49 q (k (.exit 0) (fr_filter_Put_8 p0 p1 p2 p4 v48 v49))) (funext fun v50 => l_filter_Put_9_t cp n m p0 p1 p2 p3 p4 v48 v50 k))))
theorem s_filter_Put_10_t {R : Type} (cp : Nat → Nat → Bool) (n : Nat) (p0 : (List SEntry)) (p1 p2 p3 : Int) (p4 : Bool) (v48 : Int) (k : Ex → FF → Option R) : X cp n i_filter_Put_1 (fr_filter_Put_2 p0 p1 p2 p3 p4 v48) k = s_filter_Put_10 cp n p0 p1 p2 p3 p4 v48 (fun v51 => k (.exit 0) (fr_filter_Put_8 p0 p1 p2 p4 v48 v51)) := (show X cp n i_filter_Put_1 (fr_filter_Put_2 p0 p1 p2 p3 p4 v48) k = loopN2 (X cp n i_filter_Put_0) n (fr_filter_Put_7 p0 p1 p2 p3 p4 v48 0) k from by kernel_rfl).trans (l_filter_Put_9_t cp n n p0 p1 p2 p3 p4 v48 0 k)
def fr_filter_Put_11 (p0 : (List SEntry)) (p1 p2 : Int) (p4 : Bool) (v48 v52 : Int) : FF := [(.row false (.rEntry p0)) :: (dT 1 ((tL p2) :: (dT 1 ((tB p4) :: (dT 7 ((.ptr 91 0) :: (tL v52) :: (tL v48) :: (dT 1 []))))))), dc, dc, dc, dc, dT 11 ((.hdr 2) :: (tL p1) :: (tL p2) :: (dT 2 []))]
theorem s_filter_Put_12_t {R : Type} (cp : Nat → Nat → Bool) (n : Nat) (p0 : (List SEntry)) (p1 p2 p3 : Int) (p4 : Bool) (v48 : Int) (k : Ex → FF → Option R) : X cp n i_filter_Put_2 (fr_filter_Put_2 p0 p1 p2 p3 p4 v48) k = s_filter_Put_12 cp n p0 p1 p2 p3 p4 v48 (fun v52 => k .norm (fr_filter_Put_11 p0 p1 p2 p4 v48 v52)) := (show X cp n i_filter_Put_2 (fr_filter_Put_2 p0 p1 p2 p3 p4 v48) k = X cp n i_filter_Put_1 (fr_filter_Put_2 p0 p1 p2 p3 p4 v48) (blkT 0 k) from by kernel_rfl).trans ((s_filter_Put_10_t cp n p0 p1 p2 p3 p4 v48 (blkT 0 k)).trans (by kernel_rfl))
def fr_filter_Put_14 (p0 : (List SEntry)) (p1 p2 : Int) (p4 : Bool) (v52 v55 : Int) : FF := [(.row false (.rEntry p0)) :: (dT 1 ((tL p2) :: (dT 1 ((tB p4) :: (dT 7 ((.ptr 91 0) :: (tL v52) :: (tL v55) :: (dT 1 []))))))), dc, dc, dc, dc, dT 11 ((.hdr 2) :: (tL p1) :: (tL p2) :: (dT 2 []))]
def fr_filter_Put_15 (p0 : (List SEntry)) (p1 p2 v52 v53 : Int) : FF := [(.row false (.rEntry p0)) :: (dT 11 ((.ptr 91 0) :: (tL v52) :: (tL v53) :: (dT 1 []))), dc, dc, dc, dc, dT 11 ((.hdr 2) :: (tL p1) :: (tL p2) :: (dT 2 []))]
def fr_filter_Put_16 (p0 : (List SEntry)) (p1 p2 : Int) (p4 : Bool) (v52 v53 : Int) : FF := [(.row false (.rEntry p0)) :: (dT 1 ((tL p2) :: (dT 1 ((tB p4) :: (dT 7 ((.ptr 91 0) :: (tL v52) :: (tL v53) :: (dT 1 []))))))), dc, dc, dc, dc, dT 11 ((.hdr 2) :: (tL p1) :: (tL p2) :: (dT 2 []))]
theorem s_filter_Put_13_t {R : Type} (cp : Nat → Nat → Bool) (n : Nat) (p0 : (List SEntry)) (p1 p2 : Int) (p4 : Bool) (v52 v53 : Int) (k : Ex → FF → Option R) : X cp n i_filter_Put_3 (fr_filter_Put_16 p0 p1 p2 p4 v52 v53) k = s_filter_Put_13 cp n p0 p1 p2 p4 v52 v53 (fun v55 => k .norm (fr_filter_Put_14 p0 p1 p2 p4 v52 v55)) (k (.exit 2) (fr_filter_Put_15 p0 p1 p2 v52 v53)) := by kernel_rfl
def fr_filter_Put_17 (p0 : (List SEntry)) (p1 p2 v52 v56 : Int) : FF := [(.row false (.rEntry p0)) :: (dT 11 ((.ptr 91 0) :: (tL v52) :: (tL v56) :: (dT 1 []))), dc, dc, dc, dc, dT 11 ((.hdr 2) :: (tL p1) :: (tL p2) :: (dT 2 []))]
theorem l_filter_Put_18_t {R : Type} (cp : Nat → Nat → Bool) (n : Nat) : ∀ (m : Nat) (p0 : (List SEntry)) (p1 p2 : Int) (p4 : Bool) (v52 v53 : Int) (k : Ex → FF → Option R), loopN2 (X cp n i_filter_Put_3) m (fr_filter_Put_16 p0 p1 p2 p4 v52 v53) k = l_filter_Put_18 cp n m p0 p1 p2 p4 v52 v53 (fun v56 => k (.exit 2) (fr_filter_Put_17 p0 p1 p2 v52 v56))
  | 0, _, _, _, _, _, _, _ => rfl
  | m + 1, p0, p1, p2, p4, v52, v53, k => (loopN2_succ (X cp n i_filter_Put_3) m (fr_filter_Put_16 p0 p1 p2 p4 v52 v53) k).trans ((s_filter_Put_13_t cp n p0 p1 p2 p4 v52 v53 (loopT (X cp n i_filter_Put_3) m k)).trans ((show s_filter_Put_13 cp n p0 p1 p2 p4 v52 v53 (fun v55 => loopT (X cp n i_filter_Put_3) m k .norm (fr_filter_Put_14 p0 p1 p2 p4 v52 v55)) (loopT (X cp n i_filter_Put_3) m k (.exit 2) (fr_filter_Put_15 p0 p1 p2 v52 v53)) = s_filter_Put_13 cp n p0 p1 p2 p4 v52 v53 (fun v55 => loopN2 (X cp n i_filter_Put_3) m (fr_filter_Put_16 p0 p1 p2 p4 v52 v55) k) (k (.exit 2) (fr_filter_Put_17 p0 p1 p2 v52 v53)) from by kernel_rfl).trans (congrArg (fun q => s_filter_Put_13 cp n p0 p1 p2 p4 v52 v53 q (k (.exit 2) (fr_filter_Put_17 p0 p1 p2 v52 v53))) (funext fun v55 => l_filter_Put_18_t cp n m p0 p1 p2 p4 v52 v55 k))))
theorem s_filter_Put_19_t {R : Type} (cp : Nat → Nat → Bool) (n : Nat) (p0 : (List SEntry)) (p1 p2 : Int) (p4 : Bool) (v48 v52 : Int) (k : Ex → FF → Option R) : X cp n i_filter_Put_4 (fr_filter_Put_11 p0 p1 p2 p4 v48 v52) k = s_filter_Put_19 cp n p0 p1 p2 p4 v48 v52 (fun v56 => k (.exit 2) (fr_filter_Put_17 p0 p1 p2 v52 v56)) := (show X cp n i_filter_Put_4 (fr_filter_Put_11 p0 p1 p2 p4 v48 v52) k = loopN2 (X cp n i_filter_Put_3) n (fr_filter_Put_16 p0 p1 p2 p4 v52 v48) k from by kernel_rfl).trans (l_filter_Put_18_t cp n n p0 p1 p2 p4 v52 v48 k)
def fr_filter_Put_20 (p0 : (List SEntry)) (p1 p2 v52 v57 : Int) : FF := [(.row false (.rEntry p0)) :: (dT 11 ((.ptr 91 0) :: (tL v52) :: (tL v57) :: (dT 1 []))), dc, dc, dc, dc, dT 11 ((.hdr 2) :: (tL p1) :: (tL p2) :: (dT 2 []))]
theorem s_filter_Put_21_t {R : Type} (cp : Nat → Nat → Bool) (n : Nat) (p0 : (List SEntry)) (p1 p2 : Int) (p4 : Bool) (v48 v52 : Int) (k : Ex → FF → Option R) : X cp n i_filter_Put_5 (fr_filter_Put_11 p0 p1 p2 p4 v48 v52) k = s_filter_Put_21 cp n p0 p1 p2 p4 v48 v52 (fun v57 => k .norm (fr_filter_Put_20 p0 p1 p2 v52 v57)) := (show X cp n i_filter_Put_5 (fr_filter_Put_11 p0 p1 p2 p4 v48 v52) k = X cp n i_filter_Put_4 (fr_filter_Put_11 p0 p1 p2 p4 v48 v52) (blkT 2 k) from by kernel_rfl).trans ((s_filter_Put_19_t cp n p0 p1 p2 p4 v48 v52 (blkT 2 k)).trans (by kernel_rfl))
def fr_filter_Put_23 (v58 : (List SEntry)) : FF := [dT 10 ((.row false (.rEntry v58)) :: (tL 0) :: (dT 4 [])), dc, dc, dc, dc, dc]
theorem s_filter_Put_22_t {R : Type} (cp : Nat → Nat → Bool) (n : Nat) (p0 : (List SEntry)) (p1 p2 v52 v57 : Int) (k : Ex → FF → Option R) : X cp n i_filter_Put_6 (fr_filter_Put_20 p0 p1 p2 v52 v57) k = s_filter_Put_22 cp n p0 p1 p2 v52 v57 (fun v58 => k .ret (fr_filter_Put_23 v58)) := by kernel_rfl
def fr_filter_Put_24 (v59 : (List SEntry)) : FF := [dT 10 ((.row false (.rEntry v59)) :: (tL 0) :: (dT 4 [])), dc, dc, dc, dc, dc]
theorem s_filter_Put_25_t {R : Type} (cp : Nat → Nat → Bool) (n : Nat) (p0 : (List SEntry)) (p1 p2 : Int) (p4 : Bool) (v48 v52 : Int) (k : Ex → FF → Option R) : X cp n i_filter_Put_7 (fr_filter_Put_11 p0 p1 p2 p4 v48 v52) k = s_filter_Put_25 cp n p0 p1 p2 p4 v48 v52 (fun v59 => k .ret (fr_filter_Put_24 v59)) := (show X cp n i_filter_Put_7 (fr_filter_Put_11 p0 p1 p2 p4 v48 v52) k = X cp n i_filter_Put_5 (fr_filter_Put_11 p0 p1 p2 p4 v48 v52) (seqT (X cp n) i_filter_Put_6 k) from by kernel_rfl).trans ((show X cp n i_filter_Put_5 (fr_filter_Put_11 p0 p1 p2 p4 v48 v52) (seqT (X cp n) i_filter_Put_6 k) = s_filter_Put_21 cp n p0 p1 p2 p4 v48 v52 (fun v57 => X cp n i_filter_Put_6 (fr_filter_Put_20 p0 p1 p2 v52 v57) k) from (s_filter_Put_21_t cp n p0 p1 p2 p4 v48 v52 (seqT (X cp n) i_filter_Put_6 k)).trans (by kernel_rfl)).trans (congrArg (fun q => s_filter_Put_21 cp n p0 p1 p2 p4 v48 v52 q) (funext fun v57 => (s_filter_Put_22_t cp n p0 p1 p2 v52 v57 k).trans (show s_filter_Put_22 cp n p0 p1 p2 v52 v57 (fun v58 => k .ret (fr_filter_Put_23 v58)) = s_filter_Put_22 cp n p0 p1 p2 v52 v57 (fun v58 => k .ret (fr_filter_Put_24 v58)) from by kernel_rfl))))
def fr_filter_Put_26 (v60 : (List SEntry)) : FF := [dT 10 ((.row false (.rEntry v60)) :: (tL 0) :: (dT 4 [])), dc, dc, dc, dc, dc]
theorem s_filter_Put_27_t {R : Type} (cp : Nat → Nat → Bool) (n : Nat) (p0 : (List SEntry)) (p1 p2 p3 : Int) (p4 : Bool) (v48 : Int) (k : Ex → FF → Option R) : X cp n i_filter_Put_8 (fr_filter_Put_2 p0 p1 p2 p3 p4 v48) k = s_filter_Put_27 cp n p0 p1 p2 p3 p4 v48 (fun v60 => k .ret (fr_filter_Put_26 v60)) := (show X cp n i_filter_Put_8 (fr_filter_Put_2 p0 p1 p2 p3 p4 v48) k = X cp n i_filter_Put_2 (fr_filter_Put_2 p0 p1 p2 p3 p4 v48) (seqT (X cp n) i_filter_Put_7 k) from by kernel_rfl).trans ((show X cp n i_filter_Put_2 (fr_filter_Put_2 p0 p1 p2 p3 p4 v48) (seqT (X cp n) i_filter_Put_7 k) = s_filter_Put_12 cp n p0 p1 p2 p3 p4 v48 (fun v52 => X cp n i_filter_Put_7 (fr_filter_Put_11 p0 p1 p2 p4 v48 v52) k) from (s_filter_Put_12_t cp n p0 p1 p2 p3 p4 v48 (seqT (X cp n) i_filter_Put_7 k)).trans (by kernel_rfl)).trans (congrArg (fun q => s_filter_Put_12 cp n p0 p1 p2 p3 p4 v48 q) (funext fun v52 => (s_filter_Put_25_t cp n p0 p1 p2 p4 v48 v52 k).trans (show s_filter_Put_25 cp n p0 p1 p2 p4 v48 v52 (fun v59 => k .ret (fr_filter_Put_24 v59)) = s_filter_Put_25 cp n p0 p1 p2 p4 v48 v52 (fun v59 => k .ret (fr_filter_Put_26 v59)) from by kernel_rfl))))
def fr_filter_Put_28 (v61 : (List SEntry)) (v62 : Int) : FF := [dT 10 ((.row false (.rEntry v61)) :: (tL v62) :: (dT 4 [])), dc, dc, dc, dc, dc]
def fr_filter_Put_30 (p0 : (List SEntry)) (p1 p2 p3 : Int) (p4 : Bool) : FF := [(.row false (.rEntry p0)) :: (tL p1) :: (tL p2) :: (tL p3) :: (tB p4) :: (dT 11 []), dc, dc, dc, dc, dc]
theorem s_filter_Put_29_t {R : Type} (cp : Nat → Nat → Bool) (n : Nat) (p0 : (List SEntry)) (p1 p2 p3 : Int) (p4 : Bool) (k : Ex → FF → Option R) : X cp n i_filter_Put_9 (fr_filter_Put_30 p0 p1 p2 p3 p4) k = s_filter_Put_29 cp n p0 p1 p2 p3 p4 (fun v61 v62 => k .ret (fr_filter_Put_28 v61 v62)) := ((fun c => (show X cp n (.seq (.fin (.reg g_filter_Put_0) [10, 11] []) (.seq (.fin (.reg g_filter_Put_1) [15, 16, 17] []) (.seq (.seq (.fin (.reg g_filter_Put_2) [18, 19, 20, 21, 22, 23, 24, 25, 26, 27, 28, 29, 30, 31, 32, 33, 34, 35, 36, 37, 38, 39, 40, 41, 42, 43, 44, 45, 46, 47] []) (.fin (.cond (.s 48) (.seq (.fin (.reg g_filter_Put_3) [0, 1, 2, 3, 4, 12, 48] [(91, 2)]) (.ret)) (.skip)) [48] [])) (.seq (.fin (.reg g_filter_Put_4) [49, 50] []) c)))) (fr_filter_Put_30 p0 p1 p2 p3 p4) k = s_filter_Put_1 cp n p0 p1 p2 p3 p4 (fun v48 => X cp n c (fr_filter_Put_2 p0 p1 p2 p3 p4 v48) k) (k .ret (fr_filter_Put_28 [] 2)) from by kernel_rfl)) i_filter_Put_8).trans (congrArg (fun q => s_filter_Put_1 cp n p0 p1 p2 p3 p4 q (k .ret (fr_filter_Put_28 [] 2))) (funext fun v48 => (s_filter_Put_27_t cp n p0 p1 p2 p3 p4 v48 k).trans (show s_filter_Put_27 cp n p0 p1 p2 p3 p4 v48 (fun v60 => k .ret (fr_filter_Put_26 v60)) = s_filter_Put_27 cp n p0 p1 p2 p3 p4 v48 (fun v60 => k .ret (fr_filter_Put_28 v60 0)) from by kernel_rfl)))
theorem run_filter_Put {R : Type} (cp : Nat → Nat → Bool) (n : Nat) (p0 : (List SEntry)) (p1 p2 p3 : Int) (p4 : Bool) (k : Ret2 RW → Option R) : G_filter_Put cp (n + 1) p0 p1 p2 p3 p4 (fun r0 r1 => k ⟨.tup [.row false (.rEntry r0), (tL r1)], []⟩) = run2 U cp (callP cp n) n fn_filter_Put [.row false (.rEntry p0), (tL p1), (tL p2), (tL p3), (tB p4)] [] k := ((X_run (f := fn_filter_Put) (av := [.row false (.rEntry p0), (tL p1), (tL p2), (tL p3), (tB p4)]) (cells := []) (code := i_filter_Put_9) (fr := (fr_filter_Put_30 p0 p1 p2 p3 p4)) (k := k) (by kernel_rfl) (fun K => by kernel_rfl)).trans ((s_filter_Put_29_t cp n p0 p1 p2 p3 p4 (finK2 fn_filter_Put k)).trans (by kernel_rfl))).symm
/-! (*tideway/bbr.ctl).speed -/
def fr_bbr_ctl_speed_2 (q0 : Sctl) (v42 : Int) : FF := [(.ptr 74 0) :: (dT 3 ((tL v42) :: (.row false (.rEntry q0.xCc_Bw)) :: (dT 10 []))), dc, dc, dc, dT 10 ((.hdr 22) :: (sl 0 5 (ectl q0))), sl 5 16 (ectl q0), sl 21 1 (ectl q0) ++ (dT 15 [])]
def fr_bbr_ctl_speed_3 (q0 : Sctl) : FF := [dc, dc, dc, dc, dT 10 ((.hdr 22) :: (sl 0 5 (ectl q0))), sl 5 16 (ectl q0), sl 21 1 (ectl q0) ++ (dT 15 [])]
def fr_bbr_ctl_speed_5 (q0 : Sctl) (v49 : (List SEntry)) : FF := [dc, dc, dc, dc, dT 10 ([.hdr 22, (tL q0.xCc_Kind), (tL q0.xCc_Mss), (tL q0.xCc_Cwnd), (tL q0.xCc_Ssthresh), (tL q0.xCc_Acc)]), [(tL q0.xCc_Wmax), (tL q0.xCc_Epoch), (tL q0.xCc_K), (tL q0.xCc_West), (tL q0.xCc_Start), (tL q0.xCc_Mode), .row false (.rEntry v49), (tL q0.xCc_MinRtt), (tL q0.xCc_MinAt), (tL q0.xCc_Round), (tL q0.xCc_NextAt), (tL q0.xCc_Full), (tL q0.xCc_FullN), (tL q0.xCc_Phase), (tL q0.xCc_PhaseAt), (tL q0.xCc_DoneAt)], (tL q0.xCc_Prior) :: (dT 15 [])]
theorem s_bbr_ctl_speed_4_t {R : Type} (cp : Nat → Nat → Bool) (n : Nat) (q0 : Sctl) (v42 : Int) (k : Ex → FF → Option R) : X cp n i_bbr_ctl_speed_0 (fr_bbr_ctl_speed_2 q0 v42) k = s_bbr_ctl_speed_4 cp n q0 v42 (fun v49 => k .norm (fr_bbr_ctl_speed_5 q0 v49)) := by kernel_rfl
def fr_bbr_ctl_speed_6 (q0 : Sctl) (v50 : (List SEntry)) : FF := [dc, dc, dc, dc, dT 10 ([.hdr 22, (tL q0.xCc_Kind), (tL q0.xCc_Mss), (tL q0.xCc_Cwnd), (tL q0.xCc_Ssthresh), (tL q0.xCc_Acc)]), [(tL q0.xCc_Wmax), (tL q0.xCc_Epoch), (tL q0.xCc_K), (tL q0.xCc_West), (tL q0.xCc_Start), (tL q0.xCc_Mode), .row false (.rEntry v50), (tL q0.xCc_MinRtt), (tL q0.xCc_MinAt), (tL q0.xCc_Round), (tL q0.xCc_NextAt), (tL q0.xCc_Full), (tL q0.xCc_FullN), (tL q0.xCc_Phase), (tL q0.xCc_PhaseAt), (tL q0.xCc_DoneAt)], (tL q0.xCc_Prior) :: (dT 15 [])]
def fr_bbr_ctl_speed_8 (p1 : SSample) (q0 : Sctl) : FF := [(.ptr 74 0) :: (.agg (eSample p1)) :: (dT 14 []), dc, dc, dc, dT 10 ((.hdr 22) :: (sl 0 5 (ectl q0))), sl 5 16 (ectl q0), sl 21 1 (ectl q0) ++ (dT 15 [])]
theorem s_bbr_ctl_speed_7_t {R : Type} (cp : Nat → Nat → Bool) (n : Nat) (p1 : SSample) (q0 : Sctl) (k : Ex → FF → Option R) : X cp n i_bbr_ctl_speed_1 (fr_bbr_ctl_speed_8 p1 q0) k = s_bbr_ctl_speed_7 cp n p1 q0 (fun v50 => k .norm (fr_bbr_ctl_speed_6 q0 v50)) (k .ret (fr_bbr_ctl_speed_3 q0)) := ((fun c => (show X cp n (.seq (.fin (.reg g_bbr_ctl_speed_0) [1] []) (.seq (.fin (.reg g_bbr_ctl_speed_1) [7, 8, 9] []) (.seq (.seq (.fin (.reg g_bbr_ctl_speed_2) [3, 10, 11, 12, 13, 14, 15, 16, 17, 18, 19, 20] [(97, 8)]) (.fin (.cond (.s 21) (.clr [0, 4, 21] [] (.ret)) (.skip)) [21] [])) (.seq (.fin (.reg g_bbr_ctl_speed_3) [22, 23, 24, 25, 26] []) c)))) (fr_bbr_ctl_speed_8 p1 q0) k = s_bbr_ctl_speed_1 cp n p1 q0 (fun v42 => X cp n c (fr_bbr_ctl_speed_2 q0 v42) k) (k .ret (fr_bbr_ctl_speed_3 q0)) from by kernel_rfl)) i_bbr_ctl_speed_0).trans (congrArg (fun q => s_bbr_ctl_speed_1 cp n p1 q0 q (k .ret (fr_bbr_ctl_speed_3 q0))) (funext fun v42 => (s_bbr_ctl_speed_4_t cp n q0 v42 k).trans (show s_bbr_ctl_speed_4 cp n q0 v42 (fun v49 => k .norm (fr_bbr_ctl_speed_5 q0 v49)) = s_bbr_ctl_speed_4 cp n q0 v42 (fun v49 => k .norm (fr_bbr_ctl_speed_6 q0 v49)) from by kernel_rfl)))
theorem run_bbr_ctl_speed {R : Type} (cp : Nat → Nat → Bool) (n : Nat) (p1 : SSample) (q0 : Sctl) (k : Ret2 RW → Option R) : G_bbr_ctl_speed cp (n + 1) p1 q0 (fun r0 => k ⟨.tup [], [(ectl r0)]⟩) = run2 U cp (callP cp n) n fn_bbr_ctl_speed [.ptr 74 0, .agg (eSample p1)] [(ectl q0)] k := ((X_run (f := fn_bbr_ctl_speed) (av := [.ptr 74 0, .agg (eSample p1)]) (cells := [(ectl q0)]) (code := i_bbr_ctl_speed_1) (fr := (fr_bbr_ctl_speed_8 p1 q0)) (k := k) (by kernel_rfl) (fun K => by kernel_rfl)).trans ((s_bbr_ctl_speed_7_t cp n p1 q0 (finK2 fn_bbr_ctl_speed k)).trans (by kernel_rfl))).symm
/-! (*tideway/bbr.ctl).shortest -/
theorem run_bbr_ctl_shortest {R : Type} (cp : Nat → Nat → Bool) (n : Nat) (p1 : SSample) (q0 : Sctl) (k : Ret2 RW → Option R) : G_bbr_ctl_shortest cp (n + 1) p1 q0 (fun r0 r1 => k ⟨(tB r0), [(ectl r1)]⟩) = run2 U cp (callP cp n) n fn_bbr_ctl_shortest [.ptr 60 0, .agg (eSample p1)] [(ectl q0)] k := by kernel_rfl
/-! (*tideway/bbr.ctl).full -/
theorem run_bbr_ctl_full {R : Type} (cp : Nat → Nat → Bool) (n : Nat) (q0 : Sctl) (k : Ret2 RW → Option R) : G_bbr_ctl_full cp (n + 1) q0 (fun r0 => k ⟨.tup [], [(ectl r0)]⟩) = run2 U cp (callP cp n) n fn_bbr_ctl_full [.ptr 48 0] [(ectl q0)] k := by kernel_rfl
/-! math/bits.Mul64 -/
theorem run_math_bits_Mul64 {R : Type} (cp : Nat → Nat → Bool) (n : Nat) (p0 p1 : Int) (k : Ret2 RW → Option R) : G_math_bits_Mul64 cp (n + 1) p0 p1 (fun r0 r1 => k ⟨.tup [(tI .u64 r0), (tI .u64 r1)], []⟩) = run2 U cp (callP cp n) n fn_math_bits_Mul64 [(tI .u64 p0), (tI .u64 p1)] [] k := by kernel_rfl
/-! math/bits.Len64 -/
theorem run_math_bits_Len64 {R : Type} (cp : Nat → Nat → Bool) (n : Nat) (p0 : Int) (k : Ret2 RW → Option R) : G_math_bits_Len64 cp (n + 1) p0 (fun r0 => k ⟨(tL r0), []⟩) = run2 U cp (callP cp n) n fn_math_bits_Len64 [(tI .u64 p0)] [] k := by kernel_rfl
/-! math/bits.LeadingZeros64 -/
theorem run_math_bits_LeadingZeros64 {R : Type} (cp : Nat → Nat → Bool) (n : Nat) (p0 : Int) (k : Ret2 RW → Option R) : G_math_bits_LeadingZeros64 cp (n + 1) p0 (fun r0 => k ⟨(tL r0), []⟩) = run2 U cp (callP cp n) n fn_math_bits_LeadingZeros64 [(tI .u64 p0)] [] k := by kernel_rfl
/-! math/bits.Div64 -/
def fr_math_bits_Div64_2 (v69 v70 v71 v72 v73 v74 v75 v76 v77 : Int) : FF := [dT 2 ((tI .u64 v69) :: (dT 5 ((tI .u64 v70) :: (tI .u64 v71) :: (tI .u64 v72) :: (tI .u64 v73) :: (dT 1 ([(tI .u64 v74), (tI .u64 v75), (tI .u64 v76)]))))), (tI .u64 v77) :: (dT 15 []), dc, dc, dc, dc, dc, dc, dc]
def fr_math_bits_Div64_3 (v78 v79 : Int) : FF := [dT 6 ((tI .u64 v78) :: (tI .u64 v79) :: (dT 8 [])), dc, dc, dc, dc, dc, dc, dc, dc]
def fr_math_bits_Div64_5 (v69 v70 v71 v72 v73 v74 v75 v82 v83 : Int) : FF := [dT 2 ((tI .u64 v69) :: (dT 5 ((tI .u64 v70) :: (tI .u64 v71) :: (tI .u64 v72) :: (tI .u64 v73) :: (dT 1 ([(tI .u64 v74), (tI .u64 v75), (tI .u64 v82)]))))), (tI .u64 v83) :: (dT 15 []), dc, dc, dc, dc, dc, dc, dc]
def fr_math_bits_Div64_6 (v69 v70 v71 v72 v73 v74 v75 v84 : Int) : FF := [dT 2 ((tI .u64 v69) :: (dT 5 ((tI .u64 v70) :: (tI .u64 v71) :: (tI .u64 v72) :: (tI .u64 v73) :: (dT 1 ([(tI .u64 v74), (tI .u64 v75), (tI .u64 v84)]))))), dc, dc, dc, dc, dc, dc, dc, dc]
def fr_math_bits_Div64_7 (v69 v70 v71 v72 v73 v74 v75 v80 v81 : Int) : FF := [dT 2 ((tI .u64 v69) :: (dT 5 ((tI .u64 v70) :: (tI .u64 v71) :: (tI .u64 v72) :: (tI .u64 v73) :: (dT 1 ([(tI .u64 v74), (tI .u64 v75), (tI .u64 v80)]))))), (tI .u64 v81) :: (dT 15 []), dc, dc, dc, dc, dc, dc, dc]
theorem s_math_bits_Div64_4_t {R : Type} (cp : Nat → Nat → Bool) (n : Nat) (v69 v70 v71 v72 v73 v74 v75 v80 v81 : Int) (k : Ex → FF → Option R) : X cp n i_math_bits_Div64_0 (fr_math_bits_Div64_7 v69 v70 v71 v72 v73 v74 v75 v80 v81) k = s_math_bits_Div64_4 cp n v69 v70 v71 v72 v73 v74 v75 v80 v81 (fun v82 v83 => k .norm (fr_math_bits_Div64_5 v69 v70 v71 v72 v73 v74 v75 v82 v83)) (fun v84 => k (.exit 0) (fr_math_bits_Div64_6 v69 v70 v71 v72 v73 v74 v75 v84)) := by kernel_rfl
def fr_math_bits_Div64_8 (v69 v70 v71 v72 v73 v74 v75 v85 : Int) : FF := [dT 2 ((tI .u64 v69) :: (dT 5 ((tI .u64 v70) :: (tI .u64 v71) :: (tI .u64 v72) :: (tI .u64 v73) :: (dT 1 ([(tI .u64 v74), (tI .u64 v75), (tI .u64 v85)]))))), dc, dc, dc, dc, dc, dc, dc, dc]
theorem l_math_bits_Div64_9_t {R : Type} (cp : Nat → Nat → Bool) (n : Nat) : ∀ (m : Nat) (v69 v70 v71 v72 v73 v74 v75 v80 v81 : Int) (k : Ex → FF → Option R), loopN2 (X cp n i_math_bits_Div64_0) m (fr_math_bits_Div64_7 v69 v70 v71 v72 v73 v74 v75 v80 v81) k = l_math_bits_Div64_9 cp n m v69 v70 v71 v72 v73 v74 v75 v80 v81 (fun v85 => k (.exit 0) (fr_math_bits_Div64_8 v69 v70 v71 v72 v73 v74 v75 v85))
  | 0, _, _, _, _, _, _, _, _, _, _ => rfl
  | m + 1, v69, v70, v71, v72, v73, v74, v75, v80, v81, k => (loopN2_succ (X cp n i_math_bits_Div64_0) m (fr_math_bits_Div64_7 v69 v70 v71 v72 v73 v74 v75 v80 v81) k).trans ((s_math_bits_Div64_4_t cp n v69 v70 v71 v72 v73 v74 v75 v80 v81 (loopT (X cp n i_math_bits_Div64_0) m k)).trans ((show s_math_bits_Div64_4 cp n v69 v70 v71 v72 v73 v74 v75 v80 v81 (fun v82 v83 => loopT (X cp n i_math_bits_Div64_0) m k .norm (fr_math_bits_Div64_5 v69 v70 v71 v72 v73 v74 v75 v82 v83)) (fun v84 => loopT (X cp n i_math_bits_Div64_0) m k (.exit 0) (fr_math_bits_Div64_6 v69 v70 v71 v72 v73 v74 v75 v84)) = s_math_bits_Div64_4 cp n v69 v70 v71 v72 v73 v74 v75 v80 v81 (fun v82 v83 => loopN2 (X cp n i_math_bits_Div64_0) m (fr_math_bits_Div64_7 v69 v70 v71 v72 v73 v74 v75 v82 v83) k) (fun v84 => k (.exit 0) (fr_math_bits_Div64_8 v69 v70 v71 v72 v73 v74 v75 v84)) from by kernel_rfl).trans (congrArg (fun q => s_math_bits_Div64_4 cp n v69 v70 v71 v72 v73 v74 v75 v80 v81 q (fun v84 => k (.exit 0) (fr_math_bits_Div64_8 v69 v70 v71 v72 v73 v74 v75 v84))) (funext fun v82 => funext fun v83 => l_math_bits_Div64_9_t cp n m v69 v70 v71 v72 v73 v74 v75 v82 v83 k))))
theorem s_math_bits_Div64_10_t {R : Type} (cp : Nat → Nat → Bool) (n : Nat) (v69 v70 v71 v72 v73 v74 v75 v76 v77 : Int) (k : Ex → FF → Option R) : X cp n i_math_bits_Div64_1 (fr_math_bits_Div64_2 v69 v70 v71 v72 v73 v74 v75 v76 v77) k = s_math_bits_Div64_10 cp n v69 v70 v71 v72 v73 v74 v75 v76 v77 (fun v85 => k (.exit 0) (fr_math_bits_Div64_8 v69 v70 v71 v72 v73 v74 v75 v85)) := (show X cp n i_math_bits_Div64_1 (fr_math_bits_Div64_2 v69 v70 v71 v72 v73 v74 v75 v76 v77) k = loopN2 (X cp n i_math_bits_Div64_0) n (fr_math_bits_Div64_7 v69 v70 v71 v72 v73 v74 v75 v76 v77) k from by kernel_rfl).trans (l_math_bits_Div64_9_t cp n n v69 v70 v71 v72 v73 v74 v75 v76 v77 k)
def fr_math_bits_Div64_11 (v69 v70 v71 v72 v73 v74 v75 v86 : Int) : FF := [dT 2 ((tI .u64 v69) :: (dT 5 ((tI .u64 v70) :: (tI .u64 v71) :: (tI .u64 v72) :: (tI .u64 v73) :: (dT 1 ([(tI .u64 v74), (tI .u64 v75), (tI .u64 v86)]))))), dc, dc, dc, dc, dc, dc, dc, dc]
theorem s_math_bits_Div64_12_t {R : Type} (cp : Nat → Nat → Bool) (n : Nat) (v69 v70 v71 v72 v73 v74 v75 v76 v77 : Int) (k : Ex → FF → Option R) : X cp n i_math_bits_Div64_2 (fr_math_bits_Div64_2 v69 v70 v71 v72 v73 v74 v75 v76 v77) k = s_math_bits_Div64_12 cp n v69 v70 v71 v72 v73 v74 v75 v76 v77 (fun v86 => k .norm (fr_math_bits_Div64_11 v69 v70 v71 v72 v73 v74 v75 v86)) := (show X cp n i_math_bits_Div64_2 (fr_math_bits_Div64_2 v69 v70 v71 v72 v73 v74 v75 v76 v77) k = X cp n i_math_bits_Div64_1 (fr_math_bits_Div64_2 v69 v70 v71 v72 v73 v74 v75 v76 v77) (blkT 0 k) from by kernel_rfl).trans ((s_math_bits_Div64_10_t cp n v69 v70 v71 v72 v73 v74 v75 v76 v77 (blkT 0 k)).trans (by kernel_rfl))
def fr_math_bits_Div64_14 (v69 v70 v71 v72 v75 v86 v87 v88 v89 : Int) : FF := [dT 2 ((tI .u64 v69) :: (dT 5 ((tI .u64 v70) :: (tI .u64 v71) :: (tI .u64 v72) :: (dT 3 ([(tI .u64 v75), (tI .u64 v86)]))))), (tI .u64 v87) :: (tI .u64 v88) :: (tI .u64 v89) :: (dT 13 []), dc, dc, dc, dc, dc, dc, dc]
def fr_math_bits_Div64_16 (v69 v70 v71 v72 v75 v86 v88 v92 v93 : Int) : FF := [dT 2 ((tI .u64 v69) :: (dT 5 ((tI .u64 v70) :: (tI .u64 v71) :: (tI .u64 v72) :: (dT 3 ([(tI .u64 v75), (tI .u64 v86)]))))), (tI .u64 v92) :: (tI .u64 v88) :: (tI .u64 v93) :: (dT 13 []), dc, dc, dc, dc, dc, dc, dc]
def fr_math_bits_Div64_17 (v69 v70 v75 v86 v88 v94 : Int) : FF := [dT 2 ((tI .u64 v69) :: (dT 5 ((tI .u64 v70) :: (dT 5 ([(tI .u64 v75), (tI .u64 v86)]))))), dT 1 ((tI .u64 v88) :: (tI .u64 v94) :: (dT 13 [])), dc, dc, dc, dc, dc, dc, dc]
def fr_math_bits_Div64_18 (v69 v70 v71 v72 v75 v86 v88 v90 v91 : Int) : FF := [dT 2 ((tI .u64 v69) :: (dT 5 ((tI .u64 v70) :: (tI .u64 v71) :: (tI .u64 v72) :: (dT 3 ([(tI .u64 v75), (tI .u64 v86)]))))), (tI .u64 v90) :: (tI .u64 v88) :: (tI .u64 v91) :: (dT 13 []), dc, dc, dc, dc, dc, dc, dc]
theorem s_math_bits_Div64_15_t {R : Type} (cp : Nat → Nat → Bool) (n : Nat) (v69 v70 v71 v72 v75 v86 v88 v90 v91 : Int) (k : Ex → FF → Option R) : X cp n i_math_bits_Div64_3 (fr_math_bits_Div64_18 v69 v70 v71 v72 v75 v86 v88 v90 v91) k = s_math_bits_Div64_15 cp n v69 v70 v71 v72 v75 v86 v88 v90 v91 (fun v92 v93 => k .norm (fr_math_bits_Div64_16 v69 v70 v71 v72 v75 v86 v88 v92 v93)) (fun v94 => k (.exit 2) (fr_math_bits_Div64_17 v69 v70 v75 v86 v88 v94)) := by kernel_rfl
def fr_math_bits_Div64_19 (v69 v70 v75 v86 v88 v95 : Int) : FF := [dT 2 ((tI .u64 v69) :: (dT 5 ((tI .u64 v70) :: (dT 5 ([(tI .u64 v75), (tI .u64 v86)]))))), dT 1 ((tI .u64 v88) :: (tI .u64 v95) :: (dT 13 [])), dc, dc, dc, dc, dc, dc, dc]
theorem l_math_bits_Div64_20_t {R : Type} (cp : Nat → Nat → Bool) (n : Nat) : ∀ (m : Nat) (v69 v70 v71 v72 v75 v86 v88 v90 v91 : Int) (k : Ex → FF → Option R), loopN2 (X cp n i_math_bits_Div64_3) m (fr_math_bits_Div64_18 v69 v70 v71 v72 v75 v86 v88 v90 v91) k = l_math_bits_Div64_20 cp n m v69 v70 v71 v72 v75 v86 v88 v90 v91 (fun v95 => k (.exit 2) (fr_math_bits_Div64_19 v69 v70 v75 v86 v88 v95))
  | 0, _, _, _, _, _, _, _, _, _, _ => rfl
  | m + 1, v69, v70, v71, v72, v75, v86, v88, v90, v91, k => (loopN2_succ (X cp n i_math_bits_Div64_3) m (fr_math_bits_Div64_18 v69 v70 v71 v72 v75 v86 v88 v90 v91) k).trans ((s_math_bits_Div64_15_t cp n v69 v70 v71 v72 v75 v86 v88 v90 v91 (loopT (X cp n i_math_bits_Div64_3) m k)).trans ((show s_math_bits_Div64_15 cp n v69 v70 v71 v72 v75 v86 v88 v90 v91 (fun v92 v93 => loopT (X cp n i_math_bits_Div64_3) m k .norm (fr_math_bits_Div64_16 v69 v70 v71 v72 v75 v86 v88 v92 v93)) (fun v94 => loopT (X cp n i_math_bits_Div64_3) m k (.exit 2) (fr_math_bits_Div64_17 v69 v70 v75 v86 v88 v94)) = s_math_bits_Div64_15 cp n v69 v70 v71 v72 v75 v86 v88 v90 v91 (fun v92 v93 => loopN2 (X cp n i_math_bits_Div64_3) m (fr_math_bits_Div64_18 v69 v70 v71 v72 v75 v86 v88 v92 v93) k) (fun v94 => k (.exit 2) (fr_math_bits_Div64_19 v69 v70 v75 v86 v88 v94)) from by kernel_rfl).trans (congrArg (fun q => s_math_bits_Div64_15 cp n v69 v70 v71 v72 v75 v86 v88 v90 v91 q (fun v94 => k (.exit 2) (fr_math_bits_Div64_19 v69 v70 v75 v86 v88 v94))) (funext fun v92 => funext fun v93 => l_math_bits_Div64_20_t cp n m v69 v70 v71 v72 v75 v86 v88 v92 v93 k))))
theorem s_math_bits_Div64_21_t {R : Type} (cp : Nat → Nat → Bool) (n : Nat) (v69 v70 v71 v72 v75 v86 v87 v88 v89 : Int) (k : Ex → FF → Option R) : X cp n i_math_bits_Div64_4 (fr_math_bits_Div64_14 v69 v70 v71 v72 v75 v86 v87 v88 v89) k = s_math_bits_Div64_21 cp n v69 v70 v71 v72 v75 v86 v87 v88 v89 (fun v95 => k (.exit 2) (fr_math_bits_Div64_19 v69 v70 v75 v86 v88 v95)) := (show X cp n i_math_bits_Div64_4 (fr_math_bits_Div64_14 v69 v70 v71 v72 v75 v86 v87 v88 v89) k = loopN2 (X cp n i_math_bits_Div64_3) n (fr_math_bits_Div64_18 v69 v70 v71 v72 v75 v86 v88 v87 v89) k from by kernel_rfl).trans (l_math_bits_Div64_20_t cp n n v69 v70 v71 v72 v75 v86 v88 v87 v89 k)
def fr_math_bits_Div64_22 (v69 v70 v75 v86 v88 v96 : Int) : FF := [dT 2 ((tI .u64 v69) :: (dT 5 ((tI .u64 v70) :: (dT 5 ([(tI .u64 v75), (tI .u64 v86)]))))), dT 1 ((tI .u64 v88) :: (tI .u64 v96) :: (dT 13 [])), dc, dc, dc, dc, dc, dc, dc]
theorem s_math_bits_Div64_23_t {R : Type} (cp : Nat → Nat → Bool) (n : Nat) (v69 v70 v71 v72 v75 v86 v87 v88 v89 : Int) (k : Ex → FF → Option R) : X cp n i_math_bits_Div64_5 (fr_math_bits_Div64_14 v69 v70 v71 v72 v75 v86 v87 v88 v89) k = s_math_bits_Div64_23 cp n v69 v70 v71 v72 v75 v86 v87 v88 v89 (fun v96 => k .norm (fr_math_bits_Div64_22 v69 v70 v75 v86 v88 v96)) := (show X cp n i_math_bits_Div64_5 (fr_math_bits_Div64_14 v69 v70 v71 v72 v75 v86 v87 v88 v89) k = X cp n i_math_bits_Div64_4 (fr_math_bits_Div64_14 v69 v70 v71 v72 v75 v86 v87 v88 v89) (blkT 2 k) from by kernel_rfl).trans ((s_math_bits_Div64_21_t cp n v69 v70 v71 v72 v75 v86 v87 v88 v89 (blkT 2 k)).trans (by kernel_rfl))
def fr_math_bits_Div64_25 (v97 v98 : Int) : FF := [dT 6 ((tI .u64 v97) :: (tI .u64 v98) :: (dT 8 [])), dc, dc, dc, dc, dc, dc, dc, dc]
theorem s_math_bits_Div64_24_t {R : Type} (cp : Nat → Nat → Bool) (n : Nat) (v69 v70 v75 v86 v88 v96 : Int) (k : Ex → FF → Option R) : X cp n i_math_bits_Div64_6 (fr_math_bits_Div64_22 v69 v70 v75 v86 v88 v96) k = s_math_bits_Div64_24 cp n v69 v70 v75 v86 v88 v96 (fun v97 v98 => k .ret (fr_math_bits_Div64_25 v97 v98)) := by kernel_rfl
def fr_math_bits_Div64_26 (v99 v100 : Int) : FF := [dT 6 ((tI .u64 v99) :: (tI .u64 v100) :: (dT 8 [])), dc, dc, dc, dc, dc, dc, dc, dc]
theorem s_math_bits_Div64_27_t {R : Type} (cp : Nat → Nat → Bool) (n : Nat) (v69 v70 v71 v72 v75 v86 v87 v88 v89 : Int) (k : Ex → FF → Option R) : X cp n i_math_bits_Div64_7 (fr_math_bits_Div64_14 v69 v70 v71 v72 v75 v86 v87 v88 v89) k = s_math_bits_Div64_27 cp n v69 v70 v71 v72 v75 v86 v87 v88 v89 (fun v99 v100 => k .ret (fr_math_bits_Div64_26 v99 v100)) := (show X cp n i_math_bits_Div64_7 (fr_math_bits_Div64_14 v69 v70 v71 v72 v75 v86 v87 v88 v89) k = X cp n i_math_bits_Div64_5 (fr_math_bits_Div64_14 v69 v70 v71 v72 v75 v86 v87 v88 v89) (seqT (X cp n) i_math_bits_Div64_6 k) from by kernel_rfl).trans ((show X cp n i_math_bits_Div64_5 (fr_math_bits_Div64_14 v69 v70 v71 v72 v75 v86 v87 v88 v89) (seqT (X cp n) i_math_bits_Div64_6 k) = s_math_bits_Div64_23 cp n v69 v70 v71 v72 v75 v86 v87 v88 v89 (fun v96 => X cp n i_math_bits_Div64_6 (fr_math_bits_Div64_22 v69 v70 v75 v86 v88 v96) k) from (s_math_bits_Div64_23_t cp n v69 v70 v71 v72 v75 v86 v87 v88 v89 (seqT (X cp n) i_math_bits_Div64_6 k)).trans (by kernel_rfl)).trans (congrArg (fun q => s_math_bits_Div64_23 cp n v69 v70 v71 v72 v75 v86 v87 v88 v89 q) (funext fun v96 => (s_math_bits_Div64_24_t cp n v69 v70 v75 v86 v88 v96 k).trans (show s_math_bits_Div64_24 cp n v69 v70 v75 v86 v88 v96 (fun v97 v98 => k .ret (fr_math_bits_Div64_25 v97 v98)) = s_math_bits_Div64_24 cp n v69 v70 v75 v86 v88 v96 (fun v97 v98 => k .ret (fr_math_bits_Div64_26 v97 v98)) from by kernel_rfl))))
def fr_math_bits_Div64_28 (v101 v102 : Int) : FF := [dT 6 ((tI .u64 v101) :: (tI .u64 v102) :: (dT 8 [])), dc, dc, dc, dc, dc, dc, dc, dc]
theorem s_math_bits_Div64_29_t {R : Type} (cp : Nat → Nat → Bool) (n : Nat) (v69 v70 v71 v72 v73 v74 v75 v86 : Int) (k : Ex → FF → Option R) : X cp n i_math_bits_Div64_8 (fr_math_bits_Div64_11 v69 v70 v71 v72 v73 v74 v75 v86) k = s_math_bits_Div64_29 cp n v69 v70 v71 v72 v73 v74 v75 v86 (fun v101 v102 => k .ret (fr_math_bits_Div64_28 v101 v102)) := ((fun c => (show X cp n (.seq (.fin (.reg g_math_bits_Div64_21) [11, 13, 86, 87, 88, 89, 90, 91, 92, 93] []) (.seq (.fin (.reg g_math_bits_Div64_22) [94, 95, 96] []) (.seq (.fin (.reg g_math_bits_Div64_23) [97, 98, 99, 100, 101] []) c))) (fr_math_bits_Div64_11 v69 v70 v71 v72 v73 v74 v75 v86) k = s_math_bits_Div64_13 cp n v69 v70 v71 v72 v73 v74 v75 v86 (fun v87 v88 v89 => X cp n c (fr_math_bits_Div64_14 v69 v70 v71 v72 v75 v86 v87 v88 v89) k) from by kernel_rfl)) i_math_bits_Div64_7).trans (congrArg (fun q => s_math_bits_Div64_13 cp n v69 v70 v71 v72 v73 v74 v75 v86 q) (funext fun v87 => funext fun v88 => funext fun v89 => (s_math_bits_Div64_27_t cp n v69 v70 v71 v72 v75 v86 v87 v88 v89 k).trans (show s_math_bits_Div64_27 cp n v69 v70 v71 v72 v75 v86 v87 v88 v89 (fun v99 v100 => k .ret (fr_math_bits_Div64_26 v99 v100)) = s_math_bits_Div64_27 cp n v69 v70 v71 v72 v75 v86 v87 v88 v89 (fun v99 v100 => k .ret (fr_math_bits_Div64_28 v99 v100)) from by kernel_rfl)))
def fr_math_bits_Div64_30 (v103 v104 : Int) : FF := [dT 6 ((tI .u64 v103) :: (tI .u64 v104) :: (dT 8 [])), dc, dc, dc, dc, dc, dc, dc, dc]
theorem s_math_bits_Div64_31_t {R : Type} (cp : Nat → Nat → Bool) (n : Nat) (v69 v70 v71 v72 v73 v74 v75 v76 v77 : Int) (k : Ex → FF → Option R) : X cp n i_math_bits_Div64_9 (fr_math_bits_Div64_2 v69 v70 v71 v72 v73 v74 v75 v76 v77) k = s_math_bits_Div64_31 cp n v69 v70 v71 v72 v73 v74 v75 v76 v77 (fun v103 v104 => k .ret (fr_math_bits_Div64_30 v103 v104)) := (show X cp n i_math_bits_Div64_9 (fr_math_bits_Div64_2 v69 v70 v71 v72 v73 v74 v75 v76 v77) k = X cp n i_math_bits_Div64_2 (fr_math_bits_Div64_2 v69 v70 v71 v72 v73 v74 v75 v76 v77) (seqT (X cp n) i_math_bits_Div64_8 k) from by kernel_rfl).trans ((show X cp n i_math_bits_Div64_2 (fr_math_bits_Div64_2 v69 v70 v71 v72 v73 v74 v75 v76 v77) (seqT (X cp n) i_math_bits_Div64_8 k) = s_math_bits_Div64_12 cp n v69 v70 v71 v72 v73 v74 v75 v76 v77 (fun v86 => X cp n i_math_bits_Div64_8 (fr_math_bits_Div64_11 v69 v70 v71 v72 v73 v74 v75 v86) k) from (s_math_bits_Div64_12_t cp n v69 v70 v71 v72 v73 v74 v75 v76 v77 (seqT (X cp n) i_math_bits_Div64_8 k)).trans (by kernel_rfl)).trans (congrArg (fun q => s_math_bits_Div64_12 cp n v69 v70 v71 v72 v73 v74 v75 v76 v77 q) (funext fun v86 => (s_math_bits_Div64_29_t cp n v69 v70 v71 v72 v73 v74 v75 v86 k).trans (show s_math_bits_Div64_29 cp n v69 v70 v71 v72 v73 v74 v75 v86 (fun v101 v102 => k .ret (fr_math_bits_Div64_28 v101 v102)) = s_math_bits_Div64_29 cp n v69 v70 v71 v72 v73 v74 v75 v86 (fun v101 v102 => k .ret (fr_math_bits_Div64_30 v101 v102)) from by kernel_rfl))))
def fr_math_bits_Div64_32 (v105 v106 : Int) : FF := [dT 6 ((tI .u64 v105) :: (tI .u64 v106) :: (dT 8 [])), dc, dc, dc, dc, dc, dc, dc, dc]
def fr_math_bits_Div64_34 (p0 p1 p2 : Int) : FF := [(tI .u64 p0) :: (tI .u64 p1) :: (tI .u64 p2) :: (dT 13 []), dc, dc, dc, dc, dc, dc, dc, dc]
theorem s_math_bits_Div64_33_t {R : Type} (cp : Nat → Nat → Bool) (n : Nat) (p0 p1 p2 : Int) (k : Ex → FF → Option R) : X cp n i_math_bits_Div64_10 (fr_math_bits_Div64_34 p0 p1 p2) k = s_math_bits_Div64_33 cp n p0 p1 p2 (fun v105 v106 => k .ret (fr_math_bits_Div64_32 v105 v106)) := ((fun c => (show X cp n (.seq (.fin (.reg g_math_bits_Div64_0) [6, 7] []) (.seq (.seq (.fin (.reg g_math_bits_Div64_1) [19] []) (.fin (.cond (.s 20) (.stuck) (.skip)) [20] [])) (.seq (.seq (.fin (.reg g_math_bits_Div64_3) [22, 23] []) (.fin (.cond (.s 24) (.stuck) (.skip)) [24] [])) (.seq (.seq (.fin (.reg g_math_bits_Div64_5) [26] []) (.fin (.cond (.s 27) (.seq (.fin (.reg g_math_bits_Div64_6) [0, 1, 2, 27, 28, 29, 30, 31, 32, 33] []) (.ret)) (.skip)) [27] [])) (.seq (.fin (.reg g_math_bits_Div64_7) [34, 35, 36] []) (.seq (.fin (.reg g_math_bits_Div64_8) [37, 38, 39] []) (.seq (.fin (.reg g_math_bits_Div64_9) [40, 41] []) (.seq (.fin (.reg g_math_bits_Div64_10) [42, 43] []) (.seq (.fin (.reg g_math_bits_Div64_11) [0, 44, 45, 46, 47, 48, 49, 50, 51] []) (.seq (.fin (.reg g_math_bits_Div64_12) [1, 52, 53, 54] []) (.seq (.fin (.reg g_math_bits_Div64_13) [55, 56] []) (.seq (.fin (.reg g_math_bits_Div64_14) [12, 57, 58] []) (.seq (.fin (.reg g_math_bits_Div64_15) [59, 60, 61] []) (.seq (.fin (.reg g_math_bits_Div64_16) [62, 63, 64, 65, 66] []) c)))))))))))))) (fr_math_bits_Div64_34 p0 p1 p2) k = s_math_bits_Div64_1 cp n p0 p1 p2 (fun v69 v70 v71 v72 v73 v74 v75 v76 v77 => X cp n c (fr_math_bits_Div64_2 v69 v70 v71 v72 v73 v74 v75 v76 v77) k) (fun v78 v79 => k .ret (fr_math_bits_Div64_32 v78 v79)) from by kernel_rfl)) i_math_bits_Div64_9).trans (congrArg (fun q => s_math_bits_Div64_1 cp n p0 p1 p2 q (fun v78 v79 => k .ret (fr_math_bits_Div64_32 v78 v79))) (funext fun v69 => funext fun v70 => funext fun v71 => funext fun v72 => funext fun v73 => funext fun v74 => funext fun v75 => funext fun v76 => funext fun v77 => (s_math_bits_Div64_31_t cp n v69 v70 v71 v72 v73 v74 v75 v76 v77 k).trans (show s_math_bits_Div64_31 cp n v69 v70 v71 v72 v73 v74 v75 v76 v77 (fun v103 v104 => k .ret (fr_math_bits_Div64_30 v103 v104)) = s_math_bits_Div64_31 cp n v69 v70 v71 v72 v73 v74 v75 v76 v77 (fun v103 v104 => k .ret (fr_math_bits_Div64_32 v103 v104)) from by kernel_rfl)))
theorem run_math_bits_Div64 {R : Type} (cp : Nat → Nat → Bool) (n : Nat) (p0 p1 p2 : Int) (k : Ret2 RW → Option R) : G_math_bits_Div64 cp (n + 1) p0 p1 p2 (fun r0 r1 => k ⟨.tup [(tI .u64 r0), (tI .u64 r1)], []⟩) = run2 U cp (callP cp n) n fn_math_bits_Div64 [(tI .u64 p0), (tI .u64 p1), (tI .u64 p2)] [] k := ((X_run (f := fn_math_bits_Div64) (av := [(tI .u64 p0), (tI .u64 p1), (tI .u64 p2)]) (cells := []) (code := i_math_bits_Div64_10) (fr := (fr_math_bits_Div64_34 p0 p1 p2)) (k := k) (by kernel_rfl) (fun K => by kernel_rfl)).trans ((s_math_bits_Div64_33_t cp n p0 p1 p2 (finK2 fn_math_bits_Div64 k)).trans (by kernel_rfl))).symm
/-! tideway/seq.MulDiv -/
theorem run_seq_MulDiv {R : Type} (cp : Nat → Nat → Bool) (n : Nat) (p0 p1 p2 : Int) (k : Ret2 RW → Option R) : G_seq_MulDiv cp (n + 1) p0 p1 p2 (fun r0 r1 => k ⟨.tup [(tL r0), (tL r1)], []⟩) = run2 U cp (callP cp n) n fn_seq_MulDiv [(tL p0), (tL p1), (tL p2)] [] k := by kernel_rfl
/-! (*tideway/bbr.ctl).product -/
theorem run_bbr_ctl_product {R : Type} (cp : Nat → Nat → Bool) (n : Nat) (q0 : Sctl) (k : Ret2 RW → Option R) : G_bbr_ctl_product cp (n + 1) q0 (fun r0 r1 => k ⟨(tL r0), [(ectl r1)]⟩) = run2 U cp (callP cp n) n fn_bbr_ctl_product [.ptr 18 0] [(ectl q0)] k := by kernel_rfl
/-! (*tideway/bbr.ctl).probe -/
theorem run_bbr_ctl_probe {R : Type} (cp : Nat → Nat → Bool) (n : Nat) (p1 : Int) (q0 : Sctl) (k : Ret2 RW → Option R) : G_bbr_ctl_probe cp (n + 1) p1 q0 (fun r0 => k ⟨.tup [], [(ectl r0)]⟩) = run2 U cp (callP cp n) n fn_bbr_ctl_probe [.ptr 17 0, (tL p1)] [(ectl q0)] k := by kernel_rfl
/-! (*tideway/bbr.ctl).cycle -/
theorem run_bbr_ctl_cycle {R : Type} (cp : Nat → Nat → Bool) (n : Nat) (p1 : SSample) (q0 : Sctl) (k : Ret2 RW → Option R) : G_bbr_ctl_cycle cp (n + 1) p1 q0 (fun r0 => k ⟨.tup [], [(ectl r0)]⟩) = run2 U cp (callP cp n) n fn_bbr_ctl_cycle [.ptr 62 0, .agg (eSample p1)] [(ectl q0)] k := by kernel_rfl
/-! (*tideway/bbr.ctl).ask -/
def fr_bbr_ctl_ask_2 (p1 : SSample) (p2 : Bool) (q0 : Sctl) : FF := [(.ptr 122 0) :: (dT 1 ((tB p2) :: (dT 1 ((.ptr 145 0) :: (dT 11 []))))), dc, dc, dc, dc, dc, dc, dT 10 ((.hdr 22) :: (sl 0 5 (ectl q0))), sl 5 16 (ectl q0), sl 21 1 (ectl q0) ++ ((.hdr 8) :: ((eSample p1) ++ (dT 6 [])))]
def fr_bbr_ctl_ask_4 (p1 : SSample) (q0 : Sctl) (v115 : Bool) : FF := [(.ptr 122 0) :: (dT 3 ((.ptr 145 0) :: (dT 1 ((tB v115) :: (dT 9 []))))), dc, dc, dc, dc, dc, dc, dT 10 ((.hdr 22) :: (sl 0 5 (ectl q0))), sl 5 16 (ectl q0), sl 21 1 (ectl q0) ++ ((.hdr 8) :: ((eSample p1) ++ (dT 6 [])))]
def fr_bbr_ctl_ask_6 (v118 : SCc) : FF := [dc, dc, dc, dc, dc, dc, dc, dT 10 ((.hdr 22) :: (sl 0 5 (eCc v118))), sl 5 16 (eCc v118), sl 21 1 (eCc v118) ++ (dT 15 [])]
theorem s_bbr_ctl_ask_5_t {R : Type} (cp : Nat → Nat → Bool) (n : Nat) (p1 : SSample) (q0 : Sctl) (v115 : Bool) (k : Ex → FF → Option R) : X cp n i_bbr_ctl_ask_0 (fr_bbr_ctl_ask_4 p1 q0 v115) k = s_bbr_ctl_ask_5 cp n p1 q0 v115 (fun v118 => k .norm (fr_bbr_ctl_ask_6 v118)) := by kernel_rfl
def fr_bbr_ctl_ask_7 (v119 : SCc) : FF := [dc, dc, dc, dc, dc, dc, dc, dT 10 ((.hdr 22) :: (sl 0 5 (eCc v119))), sl 5 16 (eCc v119), sl 21 1 (eCc v119) ++ (dT 15 [])]
theorem s_bbr_ctl_ask_8_t {R : Type} (cp : Nat → Nat → Bool) (n : Nat) (p1 : SSample) (p2 : Bool) (q0 : Sctl) (k : Ex → FF → Option R) : X cp n i_bbr_ctl_ask_1 (fr_bbr_ctl_ask_2 p1 p2 q0) k = s_bbr_ctl_ask_8 cp n p1 p2 q0 (fun v119 => k .norm (fr_bbr_ctl_ask_7 v119)) := ((fun c => (show X cp n (.seq (.fin (.reg g_bbr_ctl_ask_1) [2, 7, 8, 9, 10, 11, 12, 13, 14, 15] []) c) (fr_bbr_ctl_ask_2 p1 p2 q0) k = s_bbr_ctl_ask_3 cp n p1 p2 q0 (fun v115 => X cp n c (fr_bbr_ctl_ask_4 p1 q0 v115) k) from by kernel_rfl)) i_bbr_ctl_ask_0).trans (congrArg (fun q => s_bbr_ctl_ask_3 cp n p1 p2 q0 q) (funext fun v115 => (s_bbr_ctl_ask_5_t cp n p1 q0 v115 k).trans (show s_bbr_ctl_ask_5 cp n p1 q0 v115 (fun v118 => k .norm (fr_bbr_ctl_ask_6 v118)) = s_bbr_ctl_ask_5 cp n p1 q0 v115 (fun v118 => k .norm (fr_bbr_ctl_ask_7 v118)) from by kernel_rfl)))
def fr_bbr_ctl_ask_9 (v120 : SCc) : FF := [dc, dc, dc, dc, dc, dc, dc, dT 10 ((.hdr 22) :: (sl 0 5 (eCc v120))), sl 5 16 (eCc v120), sl 21 1 (eCc v120) ++ (dT 15 [])]
theorem s_bbr_ctl_ask_10_t {R : Type} (cp : Nat → Nat → Bool) (n : Nat) (p1 : SSample) (p2 : Bool) (q0 : Sctl) (k : Ex → FF → Option R) : X cp n i_bbr_ctl_ask_2 (fr_bbr_ctl_ask_2 p1 p2 q0) k = s_bbr_ctl_ask_10 cp n p1 p2 q0 (fun v120 => k .norm (fr_bbr_ctl_ask_9 v120)) := (show X cp n i_bbr_ctl_ask_2 (fr_bbr_ctl_ask_2 p1 p2 q0) k = X cp n i_bbr_ctl_ask_1 (fr_bbr_ctl_ask_2 p1 p2 q0) (blkT 0 k) from by kernel_rfl).trans ((s_bbr_ctl_ask_8_t cp n p1 p2 q0 (blkT 0 k)).trans (by kernel_rfl))
def fr_bbr_ctl_ask_11 (v121 : SCc) : FF := [dc, dc, dc, dc, dc, dc, dc, dT 10 ((.hdr 22) :: (sl 0 5 (eCc v121))), sl 5 16 (eCc v121), sl 21 1 (eCc v121) ++ (dT 15 [])]
def fr_bbr_ctl_ask_13 (p1 : SSample) (p2 : Bool) (q0 : Sctl) : FF := [(.ptr 122 0) :: (.agg (eSample p1)) :: (tB p2) :: (dT 13 []), dc, dc, dc, dc, dc, dc, dT 10 ((.hdr 22) :: (sl 0 5 (ectl q0))), sl 5 16 (ectl q0), sl 21 1 (ectl q0) ++ (dT 15 [])]
theorem s_bbr_ctl_ask_12_t {R : Type} (cp : Nat → Nat → Bool) (n : Nat) (p1 : SSample) (p2 : Bool) (q0 : Sctl) (k : Ex → FF → Option R) : X cp n i_bbr_ctl_ask_3 (fr_bbr_ctl_ask_13 p1 p2 q0) k = s_bbr_ctl_ask_12 cp n p1 p2 q0 (fun v121 => k .norm (fr_bbr_ctl_ask_11 v121)) := ((fun c => (show X cp n (.seq (.fin (.reg g_bbr_ctl_ask_0) [1] []) c) (fr_bbr_ctl_ask_13 p1 p2 q0) k = s_bbr_ctl_ask_1 cp n p1 p2 q0 (X cp n c (fr_bbr_ctl_ask_2 p1 p2 q0) k) from by kernel_rfl)) i_bbr_ctl_ask_2).trans (congrArg (fun q => s_bbr_ctl_ask_1 cp n p1 p2 q0 q) ((s_bbr_ctl_ask_10_t cp n p1 p2 q0 k).trans (show s_bbr_ctl_ask_10 cp n p1 p2 q0 (fun v120 => k .norm (fr_bbr_ctl_ask_9 v120)) = s_bbr_ctl_ask_10 cp n p1 p2 q0 (fun v120 => k .norm (fr_bbr_ctl_ask_11 v120)) from by kernel_rfl)))
theorem run_bbr_ctl_ask {R : Type} (cp : Nat → Nat → Bool) (n : Nat) (p1 : SSample) (p2 : Bool) (q0 : Sctl) (k : Ret2 RW → Option R) : G_bbr_ctl_ask cp (n + 1) p1 p2 q0 (fun r0 => k ⟨.tup [], [(ectl r0)]⟩) = run2 U cp (callP cp n) n fn_bbr_ctl_ask [.ptr 122 0, .agg (eSample p1), (tB p2)] [(ectl q0)] k := ((X_run (f := fn_bbr_ctl_ask) (av := [.ptr 122 0, .agg (eSample p1), (tB p2)]) (cells := [(ectl q0)]) (code := i_bbr_ctl_ask_3) (fr := (fr_bbr_ctl_ask_13 p1 p2 q0)) (k := k) (by kernel_rfl) (fun K => by kernel_rfl)).trans ((s_bbr_ctl_ask_12_t cp n p1 p2 q0 (finK2 fn_bbr_ctl_ask k)).trans (by kernel_rfl))).symm
/-! tideway/seq.Clamp -/
theorem run_seq_Clamp {R : Type} (cp : Nat → Nat → Bool) (n : Nat) (p0 p1 p2 : Int) (k : Ret2 RW → Option R) : G_seq_Clamp cp (n + 1) p0 p1 p2 (fun r0 => k ⟨(tL r0), []⟩) = run2 U cp (callP cp n) n fn_seq_Clamp [(tL p0), (tL p1), (tL p2)] [] k := by kernel_rfl
/-! (*tideway/bbr.ctl).window -/
def fr_bbr_ctl_window_2 (p1 : SSample) (q0 : Sctl) (v64 : Int) : FF := [(.ptr 73 0) :: (dT 2 ((.ptr 96 0) :: (tL v64) :: (tL q0.xCc_Cwnd) :: (dT 10 []))), dc, dc, dc, dT 9 ((.hdr 22) :: (sl 0 6 (ectl q0))), sl 6 16 (ectl q0), (.hdr 8) :: ((eSample p1) ++ (dT 7 []))]
def fr_bbr_ctl_window_4 (q0 : Sctl) (v67 : Int) : FF := [(.ptr 73 0) :: (dT 4 ((tL v67) :: (dT 10 []))), dc, dc, dc, dT 9 ((.hdr 22) :: (sl 0 6 (ectl q0))), sl 6 16 (ectl q0), dc]
def fr_bbr_ctl_window_6 (q0 : Sctl) (v69 : Int) : FF := [dc, dc, dc, dc, dT 9 ([.hdr 22, (tL q0.xCc_Kind), (tL q0.xCc_Mss), (tL v69), (tL q0.xCc_Ssthresh), (tL q0.xCc_Acc), (tL q0.xCc_Wmax)]), [(tL q0.xCc_Epoch), (tL q0.xCc_K), (tL q0.xCc_West), (tL q0.xCc_Start), (tL q0.xCc_Mode), .row false (.rEntry q0.xCc_Bw), (tL q0.xCc_MinRtt), (tL q0.xCc_MinAt), (tL q0.xCc_Round), (tL q0.xCc_NextAt), (tL q0.xCc_Full), (tL q0.xCc_FullN), (tL q0.xCc_Phase), (tL q0.xCc_PhaseAt), (tL q0.xCc_DoneAt), (tL q0.xCc_Prior)], dc]
theorem s_bbr_ctl_window_5_t {R : Type} (cp : Nat → Nat → Bool) (n : Nat) (q0 : Sctl) (v67 : Int) (k : Ex → FF → Option R) : X cp n i_bbr_ctl_window_0 (fr_bbr_ctl_window_4 q0 v67) k = s_bbr_ctl_window_5 cp n q0 v67 (fun v69 => k .norm (fr_bbr_ctl_window_6 q0 v69)) := by kernel_rfl
def fr_bbr_ctl_window_7 (q0 : Sctl) (v70 : Int) : FF := [dc, dc, dc, dc, dT 9 ([.hdr 22, (tL q0.xCc_Kind), (tL q0.xCc_Mss), (tL v70), (tL q0.xCc_Ssthresh), (tL q0.xCc_Acc), (tL q0.xCc_Wmax)]), [(tL q0.xCc_Epoch), (tL q0.xCc_K), (tL q0.xCc_West), (tL q0.xCc_Start), (tL q0.xCc_Mode), .row false (.rEntry q0.xCc_Bw), (tL q0.xCc_MinRtt), (tL q0.xCc_MinAt), (tL q0.xCc_Round), (tL q0.xCc_NextAt), (tL q0.xCc_Full), (tL q0.xCc_FullN), (tL q0.xCc_Phase), (tL q0.xCc_PhaseAt), (tL q0.xCc_DoneAt), (tL q0.xCc_Prior)], dc]
theorem s_bbr_ctl_window_8_t {R : Type} (cp : Nat → Nat → Bool) (n : Nat) (p1 : SSample) (q0 : Sctl) (v64 : Int) (k : Ex → FF → Option R) : X cp n i_bbr_ctl_window_1 (fr_bbr_ctl_window_2 p1 q0 v64) k = s_bbr_ctl_window_8 cp n p1 q0 v64 (fun v70 => k .norm (fr_bbr_ctl_window_7 q0 v70)) := ((fun c => (show X cp n (.seq (.blk 0 (.seq (.fin (.reg g_bbr_ctl_window_3) [22, 23, 24, 25, 26, 27] []) (.cond (.s 21) (.fin (.reg g_bbr_ctl_window_4) [3, 4, 21, 28, 29, 30, 31, 32, 33, 34, 35] [(96, 8)]) (.seq (.fin (.reg g_bbr_ctl_window_5) [21, 37, 38, 39, 40, 41, 42] []) (.cond (.s 36) (.fin (.reg g_bbr_ctl_window_6) [3, 4, 36, 43, 44, 45, 46, 47, 48] [(96, 8)]) (.seq (.fin (.reg g_bbr_ctl_window_7) [4, 36, 50, 51, 52, 53, 54, 55, 56, 57] []) (.fin (.cond (.s 49) (.fin (.reg g_bbr_ctl_window_8) [3, 49, 58, 59, 60, 61] [(96, 8)]) (.skip)) [3, 49] [(96, 8)]))))))) c) (fr_bbr_ctl_window_2 p1 q0 v64) k = s_bbr_ctl_window_3 cp n p1 q0 v64 (fun v67 => X cp n c (fr_bbr_ctl_window_4 q0 v67) k) from by kernel_rfl)) i_bbr_ctl_window_0).trans (congrArg (fun q => s_bbr_ctl_window_3 cp n p1 q0 v64 q) (funext fun v67 => (s_bbr_ctl_window_5_t cp n q0 v67 k).trans (show s_bbr_ctl_window_5 cp n q0 v67 (fun v69 => k .norm (fr_bbr_ctl_window_6 q0 v69)) = s_bbr_ctl_window_5 cp n q0 v67 (fun v69 => k .norm (fr_bbr_ctl_window_7 q0 v69)) from by kernel_rfl)))
def fr_bbr_ctl_window_9 (q0 : Sctl) (v71 : Int) : FF := [dc, dc, dc, dc, dT 9 ([.hdr 22, (tL q0.xCc_Kind), (tL q0.xCc_Mss), (tL v71), (tL q0.xCc_Ssthresh), (tL q0.xCc_Acc), (tL q0.xCc_Wmax)]), [(tL q0.xCc_Epoch), (tL q0.xCc_K), (tL q0.xCc_West), (tL q0.xCc_Start), (tL q0.xCc_Mode), .row false (.rEntry q0.xCc_Bw), (tL q0.xCc_MinRtt), (tL q0.xCc_MinAt), (tL q0.xCc_Round), (tL q0.xCc_NextAt), (tL q0.xCc_Full), (tL q0.xCc_FullN), (tL q0.xCc_Phase), (tL q0.xCc_PhaseAt), (tL q0.xCc_DoneAt), (tL q0.xCc_Prior)], dc]
def fr_bbr_ctl_window_11 (p1 : SSample) (q0 : Sctl) : FF := [(.ptr 73 0) :: (.agg (eSample p1)) :: (dT 14 []), dc, dc, dc, dT 9 ((.hdr 22) :: (sl 0 6 (ectl q0))), sl 6 16 (ectl q0), dc]
theorem s_bbr_ctl_window_10_t {R : Type} (cp : Nat → Nat → Bool) (n : Nat) (p1 : SSample) (q0 : Sctl) (k : Ex → FF → Option R) : X cp n i_bbr_ctl_window_2 (fr_bbr_ctl_window_11 p1 q0) k = s_bbr_ctl_window_10 cp n p1 q0 (fun v71 => k .norm (fr_bbr_ctl_window_9 q0 v71)) := ((fun c => (show X cp n (.seq (.fin (.reg g_bbr_ctl_window_0) [1] []) (.seq (.fin (.reg g_bbr_ctl_window_1) [6, 7, 8, 9, 10, 11, 12, 13, 14, 15] []) (.seq (.fin (.reg g_bbr_ctl_window_2) [16, 17, 18, 19, 20] []) c))) (fr_bbr_ctl_window_11 p1 q0) k = s_bbr_ctl_window_1 cp n p1 q0 (fun v64 => X cp n c (fr_bbr_ctl_window_2 p1 q0 v64) k) from by kernel_rfl)) i_bbr_ctl_window_1).trans (congrArg (fun q => s_bbr_ctl_window_1 cp n p1 q0 q) (funext fun v64 => (s_bbr_ctl_window_8_t cp n p1 q0 v64 k).trans (show s_bbr_ctl_window_8 cp n p1 q0 v64 (fun v70 => k .norm (fr_bbr_ctl_window_7 q0 v70)) = s_bbr_ctl_window_8 cp n p1 q0 v64 (fun v70 => k .norm (fr_bbr_ctl_window_9 q0 v70)) from by kernel_rfl)))
theorem run_bbr_ctl_window {R : Type} (cp : Nat → Nat → Bool) (n : Nat) (p1 : SSample) (q0 : Sctl) (k : Ret2 RW → Option R) : G_bbr_ctl_window cp (n + 1) p1 q0 (fun r0 => k ⟨.tup [], [(ectl r0)]⟩) = run2 U cp (callP cp n) n fn_bbr_ctl_window [.ptr 73 0, .agg (eSample p1)] [(ectl q0)] k := ((X_run (f := fn_bbr_ctl_window) (av := [.ptr 73 0, .agg (eSample p1)]) (cells := [(ectl q0)]) (code := i_bbr_ctl_window_2) (fr := (fr_bbr_ctl_window_11 p1 q0)) (k := k) (by kernel_rfl) (fun K => by kernel_rfl)).trans ((s_bbr_ctl_window_10_t cp n p1 q0 (finK2 fn_bbr_ctl_window k)).trans (by kernel_rfl))).symm
/-! tideway/bbr.Acked -/
def fr_bbr_Acked_2 (p1 : SSample) (v45 : Bool) (v46 : SCc) : FF := [dT 3 ((.ptr 107 0) :: (.ptr 116 0) :: (dT 2 ((.ptr 139 0) :: (tB v45) :: (dT 7 [])))), dc, dc, dc, dc, dc, dT 11 ((.hdr 8) :: (sl 0 4 (eSample p1))), sl 4 4 (eSample p1) ++ [.hdr 22, (tL 0), (tL 0), (tL 0), (tL 0), (tL 0), (tL 0), (tL 0), (tL 0), (tL 0), (tL 0), (tL 0)], (.row false (.rEntry [])) :: (tL 0) :: (tL 0) :: (tL 0) :: (tL 0) :: (tL 0) :: (tL 0) :: (tL 0) :: (tL 0) :: (tL 0) :: (tL 0) :: (.hdr 22) :: (sl 0 4 (eCc v46)), sl 4 16 (eCc v46), sl 20 2 (eCc v46) ++ (dT 14 [])]
def fr_bbr_Acked_3 (v47 : Int) : FF := [dT 4 ((.ptr 116 0) :: (tL v47) :: (dT 10 [])), dc, dc, dc, dc, dc, dc, dT 4 ([.hdr 22, (tL 0), (tL 0), (tL 0), (tL 0), (tL 0), (tL 0), (tL 0), (tL 0), (tL 0), (tL 0), (tL 0)]), (.row false (.rEntry [])) :: (tL 0) :: (tL 0) :: (tL 0) :: (tL 0) :: (tL 0) :: (tL 0) :: (tL 0) :: (tL 0) :: (tL 0) :: (tL 0) :: (dT 5 []), dc, dc]
def fr_bbr_Acked_5 (p1 : SSample) (v56 : Bool) (v57 : SCc) : FF := [dT 3 ((.ptr 107 0) :: (.ptr 116 0) :: (dT 2 ((.ptr 139 0) :: (dT 1 ((tB v56) :: (dT 6 [])))))), dc, dc, dc, dc, dc, dT 11 ((.hdr 8) :: (sl 0 4 (eSample p1))), sl 4 4 (eSample p1) ++ [.hdr 22, (tL 0), (tL 0), (tL 0), (tL 0), (tL 0), (tL 0), (tL 0), (tL 0), (tL 0), (tL 0), (tL 0)], (.row false (.rEntry [])) :: (tL 0) :: (tL 0) :: (tL 0) :: (tL 0) :: (tL 0) :: (tL 0) :: (tL 0) :: (tL 0) :: (tL 0) :: (tL 0) :: (.hdr 22) :: (sl 0 4 (eCc v57)), sl 4 16 (eCc v57), sl 20 2 (eCc v57) ++ (dT 14 [])]
def fr_bbr_Acked_7 (v73 : SCc) : FF := [dT 4 ((.ptr 116 0) :: (tL 0) :: (dT 10 [])), dc, dc, dc, dc, dc, dc, dT 4 ((.hdr 22) :: (sl 0 11 (eCc v73))), sl 11 11 (eCc v73) ++ (dT 5 []), dc, dc]
theorem s_bbr_Acked_6_t {R : Type} (cp : Nat → Nat → Bool) (n : Nat) (p1 : SSample) (v56 : Bool) (v57 : SCc) (k : Ex → FF → Option R) : X cp n i_bbr_Acked_0 (fr_bbr_Acked_5 p1 v56 v57) k = s_bbr_Acked_6 cp n p1 v56 v57 (fun v73 => k .ret (fr_bbr_Acked_7 v73)) := by kernel_rfl
def fr_bbr_Acked_8 (v74 : SCc) : FF := [dT 4 ((.ptr 116 0) :: (tL 0) :: (dT 10 [])), dc, dc, dc, dc, dc, dc, dT 4 ((.hdr 22) :: (sl 0 11 (eCc v74))), sl 11 11 (eCc v74) ++ (dT 5 []), dc, dc]
theorem s_bbr_Acked_9_t {R : Type} (cp : Nat → Nat → Bool) (n : Nat) (p1 : SSample) (v45 : Bool) (v46 : SCc) (k : Ex → FF → Option R) : X cp n i_bbr_Acked_1 (fr_bbr_Acked_2 p1 v45 v46) k = s_bbr_Acked_9 cp n p1 v45 v46 (fun v74 => k .ret (fr_bbr_Acked_8 v74)) := ((fun c => (show X cp n (.seq (.fin (.reg g_bbr_Acked_8) [48, 49, 50] []) (.seq (.fin (.reg g_bbr_Acked_9) [51, 52, 53] []) (.seq (.seq (.fin (.reg g_bbr_Acked_10) [8, 54, 55, 56, 57, 58, 59, 60, 61, 62, 63, 64, 65, 66] []) (.fin (.cond (.s 67) (.fin (.reg g_bbr_Acked_11) [67, 68, 69] []) (.skip)) [67] [])) c))) (fr_bbr_Acked_2 p1 v45 v46) k = s_bbr_Acked_4 cp n p1 v45 v46 (fun v56 v57 => X cp n c (fr_bbr_Acked_5 p1 v56 v57) k) from by kernel_rfl)) i_bbr_Acked_0).trans (congrArg (fun q => s_bbr_Acked_4 cp n p1 v45 v46 q) (funext fun v56 => funext fun v57 => (s_bbr_Acked_6_t cp n p1 v56 v57 k).trans (show s_bbr_Acked_6 cp n p1 v56 v57 (fun v73 => k .ret (fr_bbr_Acked_7 v73)) = s_bbr_Acked_6 cp n p1 v56 v57 (fun v73 => k .ret (fr_bbr_Acked_8 v73)) from by kernel_rfl)))
def fr_bbr_Acked_10 (v75 : Int) (v76 : SCc) : FF := [dT 4 ((.ptr 116 0) :: (tL v75) :: (dT 10 [])), dc, dc, dc, dc, dc, dc, dT 4 ((.hdr 22) :: (sl 0 11 (eCc v76))), sl 11 11 (eCc v76) ++ (dT 5 []), dc, dc]
def fr_bbr_Acked_12 (p0 : SCc) (p1 : SSample) : FF := [(.agg (eCc p0)) :: (.agg (eSample p1)) :: (dT 14 []), dc, dc, dc, dc, dc, dc, dc, dc, dc, dc]
theorem s_bbr_Acked_11_t {R : Type} (cp : Nat → Nat → Bool) (n : Nat) (p0 : SCc) (p1 : SSample) (k : Ex → FF → Option R) : X cp n i_bbr_Acked_2 (fr_bbr_Acked_12 p0 p1) k = s_bbr_Acked_11 cp n p0 p1 (fun v75 v76 => k .ret (fr_bbr_Acked_10 v75 v76)) := ((fun c => (show X cp n (.seq (.fin (.reg g_bbr_Acked_0) [0, 1, 5] []) (.seq (.seq (.fin (.reg g_bbr_Acked_1) [10, 11] []) (.seq (.fin (.reg g_bbr_Acked_2) [12] []) (.fin (.cond (.s 13) (.seq (.fin (.reg g_bbr_Acked_3) [2, 3, 6, 13, 14, 15] [(84, 22), (107, 8)]) (.ret)) (.skip)) [6, 13] []))) (.seq (.seq (.fin (.reg g_bbr_Acked_4) [16, 17, 18, 19, 20, 21, 22, 23, 24, 25, 26, 27, 28, 29, 30, 31, 32, 33, 34, 35, 36, 37, 38, 39] []) (.fin (.cond (.s 40) (.seq (.fin (.reg g_bbr_Acked_5) [2, 3, 40, 41] [(84, 22), (107, 8)]) (.ret)) (.skip)) [40] [])) (.seq (.fin (.reg g_bbr_Acked_6) [2, 42, 43, 44] [(84, 22)]) (.seq (.fin (.reg g_bbr_Acked_7) [45, 46, 47] []) c))))) (fr_bbr_Acked_12 p0 p1) k = s_bbr_Acked_1 cp n p0 p1 (fun v45 v46 => X cp n c (fr_bbr_Acked_2 p1 v45 v46) k) (fun v47 => k .ret (fr_bbr_Acked_10 v47 (SCc.mk 0 0 0 0 0 0 0 0 0 0 0 [] 0 0 0 0 0 0 0 0 0 0))) from by kernel_rfl)) i_bbr_Acked_1).trans (congrArg (fun q => s_bbr_Acked_1 cp n p0 p1 q (fun v47 => k .ret (fr_bbr_Acked_10 v47 (SCc.mk 0 0 0 0 0 0 0 0 0 0 0 [] 0 0 0 0 0 0 0 0 0 0)))) (funext fun v45 => funext fun v46 => (s_bbr_Acked_9_t cp n p1 v45 v46 k).trans (show s_bbr_Acked_9 cp n p1 v45 v46 (fun v74 => k .ret (fr_bbr_Acked_8 v74)) = s_bbr_Acked_9 cp n p1 v45 v46 (fun v74 => k .ret (fr_bbr_Acked_10 0 v74)) from by kernel_rfl)))
theorem run_bbr_Acked {R : Type} (cp : Nat → Nat → Bool) (n : Nat) (p0 : SCc) (p1 : SSample) (k : Ret2 RW → Option R) : G_bbr_Acked cp (n + 1) p0 p1 (fun r0 r1 => k ⟨.tup [.agg (eCc r0), (tL r1)], []⟩) = run2 U cp (callP cp n) n fn_bbr_Acked [.agg (eCc p0), .agg (eSample p1)] [] k := ((X_run (f := fn_bbr_Acked) (av := [.agg (eCc p0), .agg (eSample p1)]) (cells := []) (code := i_bbr_Acked_2) (fr := (fr_bbr_Acked_12 p0 p1)) (k := k) (by kernel_rfl) (fun K => by kernel_rfl)).trans ((s_bbr_Acked_11_t cp n p0 p1 (finK2 fn_bbr_Acked k)).trans (by kernel_rfl))).symm
/-! tideway/bbr.Bandwidth -/
theorem run_bbr_Bandwidth {R : Type} (cp : Nat → Nat → Bool) (n : Nat) (p0 : SCc) (k : Ret2 RW → Option R) : G_bbr_Bandwidth cp (n + 1) p0 (fun r0 => k ⟨(tL r0), []⟩) = run2 U cp (callP cp n) n fn_bbr_Bandwidth [.agg (eCc p0)] [] k := by kernel_rfl
/-! tideway/bbr.Product -/
theorem run_bbr_Product {R : Type} (cp : Nat → Nat → Bool) (n : Nat) (p0 : SCc) (k : Ret2 RW → Option R) : G_bbr_Product cp (n + 1) p0 (fun r0 => k ⟨(tL r0), []⟩) = run2 U cp (callP cp n) n fn_bbr_Product [.agg (eCc p0)] [] k := by kernel_rfl
/-! tideway/bbr.Gain -/
theorem run_bbr_Gain {R : Type} (cp : Nat → Nat → Bool) (n : Nat) (p0 : SCc) (k : Ret2 RW → Option R) : G_bbr_Gain cp (n + 1) p0 (fun r0 => k ⟨(tL r0), []⟩) = run2 U cp (callP cp n) n fn_bbr_Gain [.agg (eCc p0)] [] k := by kernel_rfl
/-! tideway/tidewaylaw18.heads -/
def fr_law18_heads_2 (v51 v52 v53 v54 : Int) (v55 v56 : SCc) : FF := [dT 2 ((tL v51) :: (.ptr 102 0) :: (tL v52) :: (.ptr 125 0) :: (tL v53) :: (dT 1 ((tL v54) :: (dT 7 [])))), dc, dc, dc, dc, dc, dT 6 ((.hdr 22) :: (sl 0 9 (eCc v55))), sl 9 13 (eCc v55) ++ ((.hdr 22) :: (sl 0 2 (eCc v56))), sl 2 16 (eCc v56), sl 18 4 (eCc v56) ++ (dT 12 []), dc, dc, dc]
def fr_law18_heads_4 (v69 : Bool) : FF := [(tB v69) :: (dT 15 []), dc, dc, dc, dc, dc, dc, dc, dc, dc, dc, dc, dc]
theorem s_law18_heads_3_t {R : Type} (cp : Nat → Nat → Bool) (n : Nat) (v51 v52 v53 v54 : Int) (v55 v56 : SCc) (k : Ex → FF → Option R) : X cp n i_law18_heads_0 (fr_law18_heads_2 v51 v52 v53 v54 v55 v56) k = s_law18_heads_3 cp n v51 v52 v53 v54 v55 v56 (fun v69 => k .ret (fr_law18_heads_4 v69)) := by kernel_rfl
def fr_law18_heads_5 (v70 : Bool) : FF := [(tB v70) :: (dT 15 []), dc, dc, dc, dc, dc, dc, dc, dc, dc, dc, dc, dc]
def fr_law18_heads_7 : FF := [dc, dc, dc, dc, dc, dc, dc, dc, dc, dc, dc, dc, dc]
theorem s_law18_heads_6_t {R : Type} (cp : Nat → Nat → Bool) (n : Nat) (k : Ex → FF → Option R) : X cp n i_law18_heads_1 fr_law18_heads_7 k = s_law18_heads_6 cp n (fun v70 => k .ret (fr_law18_heads_5 v70)) := ((fun c => (show X cp n (.seq (.fin (.reg g_law18_heads_0) [0] []) (.seq (.fin (.reg g_law18_heads_1) [11, 12, 13, 14] []) (.seq (.fin (.reg g_law18_heads_2) [1, 15, 16, 17, 18, 19, 20] [(79, 22)]) (.seq (.fin (.reg g_law18_heads_3) [21, 22, 23, 24, 25] []) (.seq (.fin (.reg g_law18_heads_4) [7, 26, 27, 28, 29] [(148, 22)]) c))))) fr_law18_heads_7 k = s_law18_heads_1 cp n (fun v51 v52 v53 v54 v55 v56 => X cp n c (fr_law18_heads_2 v51 v52 v53 v54 v55 v56) k) from by kernel_rfl)) i_law18_heads_0).trans (congrArg (fun q => s_law18_heads_1 cp n q) (funext fun v51 => funext fun v52 => funext fun v53 => funext fun v54 => funext fun v55 => funext fun v56 => (s_law18_heads_3_t cp n v51 v52 v53 v54 v55 v56 k).trans (show s_law18_heads_3 cp n v51 v52 v53 v54 v55 v56 (fun v69 => k .ret (fr_law18_heads_4 v69)) = s_law18_heads_3 cp n v51 v52 v53 v54 v55 v56 (fun v69 => k .ret (fr_law18_heads_5 v69)) from by kernel_rfl)))
theorem run_law18_heads {R : Type} (cp : Nat → Nat → Bool) (n : Nat) (k : Ret2 RW → Option R) : G_law18_heads cp (n + 1) (fun r0 => k ⟨(tB r0), []⟩) = run2 U cp (callP cp n) n fn_law18_heads [] [] k := ((X_run (f := fn_law18_heads) (av := []) (cells := []) (code := i_law18_heads_1) (fr := fr_law18_heads_7) (k := k) (by kernel_rfl) (fun K => by kernel_rfl)).trans ((s_law18_heads_6_t cp n  (finK2 fn_law18_heads k)).trans (by kernel_rfl))).symm
/-! tideway/tidewaylaw18.BbrFalls -/
def fr_law18_BbrFalls_2 (v21 v22 v23 v24 : Int) (v25 v26 v27 v28 : SCc) : FF := [dT 7 ((.ptr 92 0) :: (tL v21) :: (.ptr 115 0) :: (tL v22) :: (.ptr 138 0) :: (tL v23) :: (.ptr 161 0) :: (tL v24) :: (dT 1 [])), dc, dc, dc, dc, dT 12 ((.hdr 22) :: (sl 0 3 (eCc v25))), sl 3 16 (eCc v25), sl 19 3 (eCc v25) ++ ((.hdr 22) :: (sl 0 12 (eCc v26))), sl 12 10 (eCc v26) ++ ((.hdr 22) :: (sl 0 5 (eCc v27))), sl 5 16 (eCc v27), sl 21 1 (eCc v27) ++ ((.hdr 22) :: (sl 0 14 (eCc v28))), sl 14 8 (eCc v28) ++ (dT 8 [])]
def fr_law18_BbrFalls_4 (v34 : Bool) : FF := [dT 6 ((tB v34) :: (dT 9 [])), dc, dc, dc, dc, dc, dc, dc, dc, dc, dc, dc]
theorem s_law18_BbrFalls_3_t {R : Type} (cp : Nat → Nat → Bool) (n : Nat) (v21 v22 v23 v24 : Int) (v25 v26 v27 v28 : SCc) (k : Ex → FF → Option R) : X cp n i_law18_BbrFalls_0 (fr_law18_BbrFalls_2 v21 v22 v23 v24 v25 v26 v27 v28) k = s_law18_BbrFalls_3 cp n v21 v22 v23 v24 v25 v26 v27 v28 (fun v34 => k .norm (fr_law18_BbrFalls_4 v34)) := by kernel_rfl
theorem s_law18_BbrFalls_5_t {R : Type} (cp : Nat → Nat → Bool) (n : Nat) (v34 : Bool) (k : Ex → FF → Option R) : X cp n i_law18_BbrFalls_1 (fr_law18_BbrFalls_4 v34) k = s_law18_BbrFalls_5 cp n v34 (k .ret (fr_law18_BbrFalls_4 v34)) := by kernel_rfl
def fr_law18_BbrFalls_6 (v35 : Bool) : FF := [dT 6 ((tB v35) :: (dT 9 [])), dc, dc, dc, dc, dc, dc, dc, dc, dc, dc, dc]
end
end Go.Proofs.Ytgadpgeghlhpnaa.M
