/- The machine's code of the functions, and that it computes them. -/
import Derived.Test.YtilmdmjhdidoiaaDG0
import Derived.Test.YtilmdmjhdidoiaaProg
import Derived.KernelRfl
set_option maxRecDepth 100000
set_option linter.unusedVariables false
set_option linter.unusedSimpArgs false
namespace Go.Proofs.Ytilmdmjhdidoiaa.M
open Go
noncomputable section
variable {R : Type}
theorem ch {R α : Type} {a d : Option R} (Q : α → Option R) (g : IC2 RW → α) (x : IC2 RW) {e : α} (C : IC2 RW → Option R) (h : ∀ c, C c = Q (g c)) (i : g x = e) (ha : a = C x) (hd : Q e = d) : a = d := by subst ha; rw [h x, i]; exact hd
theorem tq {R : Type} {a b c : Option R} (h2 : b = c) (h1 : a = b) : a = c := h1.trans h2
abbrev KX (R : Type) := Ex → FF → Option R
abbrev LS := List (IStep2 RW)
abbrev CW := IC2 RW
def mvS (x : Nat) : IOp2 RW := .mv false (.s x)
def fdS (j x : Nat) : IOp2 RW := .fld j (.s x)
def ldS (h j x : Nat) : IOp2 RW := .load h j 1 false false x
def lnS (x : Nat) : IOp2 RW := .len false (.s x)
def bnS (o : BinOp) (x y : Nat) : IOp2 RW := .bin o (.s x) (.s y)
def ntS (x : Nat) : IOp2 RW := .un .not (.s x)
def ixS (z x y : Nat) : IOp2 RW := .idx z (.s x) (.s y)
def X (cp : CP) (n : Nat) (c : IC2 RW) (l : FF) (k : KX R) : Option R := exec2 U cp (callP cp n) n c l k
theorem X_run {R : Type} {cp : Nat → Nat → Bool} {n : Nat} {f : IFn2 RW} {av : Fr} {cells : List Fr} {code : IC2 RW} {fr : FF} {k : Ret2 RW → Option R} (hb : f.body = code) (h : ∀ K : FF → Option R, start2 f av cells K = K fr) : run2 U cp (callP cp n) n f av cells k = X cp n code fr (finK2 f k) := by
  subst hb
  exact h _
def XI (cp : CP) (n : Nat) (Y : List (TV RW) → FF → (FF → Option R) → Option R) (c : IC2 RW) (l : FF) (k : KX R) : Option R := execI2 U cp (callP cp n) n Y c l k
def o0 (op : IOp2 RW) : IStep2 RW := ⟨none, op, none, false⟩
def o1 (d : Nat) (op : IOp2 RW) : IStep2 RW := ⟨some d, op, none, false⟩
def o2 (d : Nat) (op : IOp2 RW) : IStep2 RW := ⟨some d, op, none, true⟩
def o3 (d g : Nat) (b : Bool) (op : IOp2 RW) : IStep2 RW := ⟨some d, op, some (g, b), false⟩
def g27_0 : LS := [o1 1 (.box 12 15 false (.s 0)),
 o1 2 (.mv false (.k (.sc (.int .i64 0))))]
def g27_1 : LS := [o1 3 (fdS 0 1),
 o1 4 (ldS 12 0 3),
 o1 5 (fdS 1 1),
 o1 6 (ldS 12 1 5),
 o1 7 (lnS 6),
 o1 8 (bnS .sub 4 7),
 o1 9 (fdS 3 1),
 o1 10 (ldS 12 3 9),
 o1 11 (bnS .add 8 10),
 o1 2 (mvS 11)]
def i27_0 : CW := .seq (.fin (.reg g27_0) [0, 2] []) (.seq (.fin (.reg g27_1) [1, 3, 4, 5, 6, 7, 8, 9, 10, 11] [(12, 15)]) (.ret))
def fn27 : IFn2 RW := ⟨27, 1, 12, 32, [(12, 15)], [], [], [.slot 2], i27_0⟩
def g53_0 : LS := [o1 1 (.box 6 15 false (.s 0)),
 o1 2 (.mv false (.k (.sc (.int .i64 0))))]
def g53_1 : LS := [o1 3 (.load 6 0 15 true false 1),
 o1 4 (.call 27 [(false, .s 3)] [] []),
 o1 5 (.mnmx false [.s 4, .k (.sc (.int .i64 562949953421312))]),
 o1 2 (mvS 5)]
def i53_0 : CW := .seq (.fin (.reg g53_0) [0, 2] []) (.seq (.fin (.reg g53_1) [1, 3, 4, 5] [(6, 15)]) (.ret))
def fn53 : IFn2 RW := ⟨53, 1, 6, 32, [(6, 15)], [], [], [.slot 2], i53_0⟩
def g55_0 : LS := [o1 1 (.box 4 15 false (.s 0)),
 o1 2 (.mv false (.k (.sc .nilFunc)))]
def g55_1 : LS := [o1 3 (.mkclo 70 [.s 1]),
 o1 2 (mvS 3)]
def i55_0 : CW := .seq (.fin (.reg g55_0) [0, 2] []) (.seq (.fin (.reg g55_1) [1, 3] []) (.ret))
def fn55 : IFn2 RW := ⟨55, 1, 4, 32, [(4, 15)], [], [(4, 15)], [.slot 2], i55_0⟩
def g71_0 : LS := [o1 1 (.box 12 2 false (.s 0)),
 o1 2 (.alloc 15 [.sc (.int .i64 0), .sc (.int .i64 0)])]
def g71_1 : LS := [o1 3 (fdS 0 1),
 o1 4 (ldS 12 0 3),
 o1 5 (fdS 0 1),
 o1 6 (ldS 12 0 5),
 o1 7 (fdS 1 1),
 o1 8 (ldS 12 1 7),
 o1 9 (lnS 8),
 o1 10 (bnS .add 6 9),
 o1 11 (.build [.sc (.int .i64 0), .sc (.int .i64 0)] [(0, 1, .s 4), (1, 1, .s 10)]),
 o0 (.store 15 0 2 false 2 (.s 11))]
def i71_0 : CW := .seq (.fin (.reg g71_0) [0] []) (.seq (.fin (.reg g71_1) [1, 3, 4, 5, 6, 7, 8, 9, 10, 11] [(12, 2)]) (.ret))
def fn71 : IFn2 RW := ⟨71, 1, 12, 32, [(12, 2), (15, 2)], [], [], [.cell 2 15 2 true], i71_0⟩
def g1008_2 : LS := [o1 5 (.alloc 50 [.sc (.int .i64 0), .sc (.int .i64 0)]),
 o0 (.store 50 0 2 false 5 (.s 7))]
def i1008_0 : CW := .fin (.reg g1008_2) [7] []
def g1008_3 : LS := [o1 8 (.load 48 0 1 false true 2),
 o1 9 (.load 50 0 2 true false 5),
 o1 10 (.bslice 78 1 [(0, 2, .s 9)]),
 o1 11 (.app 2 16 true (.s 8) (.s 10)),
 o0 (.store 48 0 1 true 2 (.s 11))]
def i1008_1 : CW := .blk 1 (.fin (.reg g1008_3) [5, 8, 9, 10, 11] [(50, 2)])
def i1008_2 : CW := .seq i1008_0 i1008_1
def g1008_1000 : LS := [o1 5 (fdS 2 1),
 o1 6 (ldS 32 2 5),
 o1 7 (lnS 6),
 o1 8 (.mv false (.k (.sc (.int .i64 0))))]
def g1008_1001 : LS := [o1 9 (bnS .lss 8 7)]
def g1008_1002 : LS := [o1 10 (ixS 2 6 8),
 o1 11 (.loade 2 true 10),
 o1 4 (.alloc 53 [.sc (.int .i64 0), .row false (.ruint8 [])]),
 o0 (.store 53 0 2 false 4 (.s 11))]
def g1008_10031 : LS := [o1 12 (mvS 0),
 o1 13 (.load 53 0 2 true false 4),
 o1 14 (.call 71 [(false, .s 13)] [] [])]
def g1008_10032 : LS := [o1 16 (ntS 15)]
def g1008_1004 : LS := [o1 17 (.bin .add (.s 8) (.k (.sc (.int .i64 1)))),
 o1 8 (mvS 17)]
def i1008_3 : CW := .seq (.fin (.reg g1008_1000) [1, 5] []) (.blk 0 (.loop (.seq (.reg g1008_1001) (.seq (.fin (.cond (.s 9) (.skip) (.clr [0, 6, 7, 8, 9] [] (.exit 0))) [9] []) (.seq (.blk 1 (.seq (.fin (.reg g1008_1002) [10, 11] []) (.seq (.fin (.yreg g1008_10031 (.s 12) [.s 14] none 15 g1008_10032) [4, 12, 13, 14, 15] [(53, 2)]) (.fin (.cond (.s 16) (.clr [0, 6, 7, 8, 16] [] (.ret)) (.skip)) [16] [])))) (.fin (.reg g1008_1004) [17] []))))))
def i1008_4 : CW := .fin (.yreg g1008_10031 (.s 12) [.s 14] none 15 g1008_10032) [4, 12, 13, 14, 15] [(53, 2)]
def i1008_5 : CW := .fin (.cond (.s 16) (.clr [0, 6, 7, 8, 16] [] (.ret)) (.skip)) [16] []
def i1008_6 : CW := .seq i1008_4 i1008_5
def i1008_7 : CW := .seq (.fin (.reg g1008_1002) [10, 11] []) i1008_6
def i1008_8 : CW := .blk 1 i1008_7
def i1008_9 : CW := .fin (.reg g1008_1004) [17] []
def i1008_10 : CW := .seq i1008_8 i1008_9
def i1008_11 : CW := .seq (.reg g1008_1001) (.seq (.fin (.cond (.s 9) (.skip) (.clr [0, 6, 7, 8, 9] [] (.exit 0))) [9] []) i1008_10)
def i1008_12 : CW := .loop i1008_11
def i1008_13 : CW := .blk 0 i1008_12
def i1008_14 : CW := .fin (.rfn (.s 6) 70 2 18 [7] i1008_3 i1008_0 i1008_1 [32, 48] [32, 48, 53]) [6] []
def i1008_15 : CW := .blk 0 i1008_14
def g1008_1 : LS := [o1 6 (mvS 1)]
def i1008_16 : CW := .seq (.fin (.reg g1008_1) [1] []) i1008_15
def g1008_4 : LS := [o1 12 (ldS 48 0 2),
 o1 4 (mvS 12)]
def i1008_17 : CW := .seq (.fin (.reg g1008_4) [2, 12] [(48, 1)]) (.ret)
def i1008_18 : CW := .seq i1008_16 i1008_17
def g1008_0 : LS := [o1 2 (.box 48 1 true (.s 0)),
 o1 4 (.mv false (.k (.row false (.rSpan []))))]
def i1008_19 : CW := .seq (.fin (.reg g1008_0) [0, 4] []) i1008_18
def fn1008 : IFn2 RW := ⟨69, 2, 13, 64, [(32, 15), (48, 1), (50, 2), (53, 2)], [(32, 15)], [], [.slot 4], i1008_19⟩
def g1007_0 : LS := [o1 2 (.mv false (.k (.row false (.rSpan []))))]
def g1007_1 : LS := [o1 3 (mvS 0),
 o1 4 (.call 1008 [(true, .k (.row true (.rSpan []))), (false, .s 3)] [(5, 15, 32)] []),
 o1 2 (mvS 4)]
def i1007_0 : CW := .seq (.fin (.reg g1007_0) [2] []) (.seq (.fin (.reg g1007_1) [0, 3, 4] []) (.ret))
def fn1007 : IFn2 RW := ⟨54, 1, 5, 32, [(5, 15)], [(5, 15)], [], [.slot 2], i1007_0⟩
def g72_2 : LS := [o1 9 (bnS .lss 8 7)]
def g72_3 : LS := [o1 10 (mvS 8),
 o1 5 (mvS 10)]
def g72_4 : LS := [o1 11 (.load 19 0 2 true false 3),
 o1 12 (mvS 0),
 o1 13 (mvS 5),
 o1 14 (ixS 2 12 13),
 o1 15 (.loade 2 true 14),
 o1 16 (.eqs [true, true] false (.s 11) (.s 15))]
def g72_5 : LS := [o1 17 (mvS 5),
 o1 4 (mvS 17)]
def g72_6 : LS := [o1 18 (.bin .add (.s 8) (.k (.sc (.int .i64 1)))),
 o1 8 (mvS 18)]
def i72_0 : CW := .seq (.reg g72_2) (.seq (.fin (.cond (.s 9) (.skip) (.clr [0, 3, 7, 8, 9] [(19, 2)] (.exit 0))) [9] []) (.seq (.blk 1 (.seq (.fin (.reg g72_3) [10] []) (.seq (.fin (.reg g72_4) [11, 12, 13, 14, 15] []) (.fin (.cond (.s 16) (.seq (.fin (.reg g72_5) [0, 3, 5, 7, 8, 16, 17] [(19, 2)]) (.ret)) (.skip)) [5, 16] [])))) (.fin (.reg g72_6) [18] [])))
def i72_1 : CW := .loop i72_0
def i72_2 : CW := .blk 0 i72_1
def g72_1 : LS := [o1 6 (mvS 0),
 o1 7 (lnS 6),
 o1 8 (.mv false (.k (.sc (.int .i64 0))))]
def i72_3 : CW := .seq (.fin (.reg g72_1) [6] []) i72_2
def g72_7 : LS := [o1 4 (.mv false (.k (.sc (.int .i64 (-1)))))]
def i72_4 : CW := .seq (.reg g72_7) (.ret)
def i72_5 : CW := .seq i72_3 i72_4
def g72_0 : LS := [o1 3 (.box 19 2 false (.s 1)),
 o1 4 (.mv false (.k (.sc (.int .i64 0))))]
def i72_6 : CW := .seq (.fin (.reg g72_0) [1, 4] []) i72_5
def fn72 : IFn2 RW := ⟨72, 2, 19, 32, [(19, 2)], [], [], [.slot 4], i72_6⟩
def g56_0 : LS := [o1 3 (.box 9 2 false (.s 1)),
 o1 4 (.mv false (.k (.sc (.bool false))))]
def g56_1 : LS := [o1 5 (mvS 0),
 o1 6 (.load 9 0 2 true false 3),
 o1 7 (.call 72 [(false, .s 5), (false, .s 6)] [] []),
 o1 8 (.bin .geq (.s 7) (.k (.sc (.int .i64 0)))),
 o1 4 (mvS 8)]
def i56_0 : CW := .seq (.fin (.reg g56_0) [1, 4] []) (.seq (.fin (.reg g56_1) [0, 3, 5, 6, 7, 8] [(9, 2)]) (.ret))
def fn56 : IFn2 RW := ⟨56, 2, 9, 16, [(9, 2)], [], [], [.slot 4], i56_0⟩
def g28_3 : LS := [o1 16 (bnS .lss 15 14)]
def g28_4 : LS := [o1 17 (ixS 2 13 15),
 o1 18 (.loade 2 true 17),
 o1 5 (.alloc 98 [.sc (.int .i64 0), .row false (.ruint8 [])]),
 o0 (.store 98 0 2 false 5 (.s 18))]
def g28_5 : LS := [o1 19 (fdS 1 5),
 o1 20 (ldS 98 1 19),
 o1 21 (lnS 20),
 o1 6 (mvS 21)]
def g28_6 : LS := [o1 22 (mvS 6),
 o1 23 (.bin .eql (.s 22) (.k (.sc (.int .i64 0)))),
 o2 24 (mvS 23),
 o3 25 24 false (fdS 0 5),
 o3 26 24 false (ldS 98 0 25),
 o3 27 24 false (mvS 3),
 o3 28 24 false (bnS .leq 26 27),
 o1 29 (.pick (.s 24) (.k (.sc (.bool true))) (.s 28)),
 o2 30 (mvS 29),
 o3 31 30 false (fdS 0 5),
 o3 32 30 false (ldS 98 0 31),
 o3 33 30 false (.load 82 0 15 true false 1),
 o3 34 30 false (.call 53 [(false, .s 33)] [] []),
 o3 35 30 false (mvS 6),
 o3 36 30 false (bnS .sub 34 35),
 o3 37 30 false (bnS .gtr 32 36),
 o1 38 (.pick (.s 30) (.k (.sc (.bool true))) (.s 37)),
 o2 39 (mvS 38),
 o3 40 39 false (fdS 9 1),
 o3 41 39 false (ldS 82 9 40),
 o3 42 39 false (.bin .geq (.s 41) (.k (.sc (.int .i64 0)))),
  ⟨some 43, .mv false (.s 42), (some (39, false)), true⟩,
 o3 44 43 true (fdS 0 5),
 o3 45 43 true (ldS 98 0 44),
 o3 46 43 true (fdS 9 1),
 o3 47 43 true (ldS 82 9 46),
 o3 48 43 true (mvS 6),
 o3 49 43 true (bnS .sub 47 48),
 o3 50 43 true (bnS .gtr 45 49),
 o3 51 39 false (.pick (.s 43) (.s 50) (.k (.sc (.bool false)))),
 o1 52 (.pick (.s 39) (.k (.sc (.bool true))) (.s 51))]
def g28_7 : LS := [o1 2 (.mv false (.k (.sc (.bool false))))]
def g28_8 : LS := [o1 53 (fdS 0 5),
 o1 54 (ldS 98 0 53),
 o1 55 (mvS 6),
 o1 56 (bnS .add 54 55),
 o1 3 (mvS 56)]
def g28_9 : LS := [o1 57 (.bin .add (.s 15) (.k (.sc (.int .i64 1)))),
 o1 15 (mvS 57)]
def i28_0 : CW := .seq (.reg g28_3) (.seq (.fin (.cond (.s 16) (.skip) (.clr [3, 13, 14, 15, 16] [] (.exit 0))) [16] []) (.seq (.blk 1 (.seq (.fin (.reg g28_4) [17, 18] []) (.seq (.fin (.reg g28_5) [19, 20, 21] []) (.seq (.seq (.fin (.reg g28_6) [3, 22, 23, 24, 25, 26, 27, 28, 29, 30, 31, 32, 33, 34, 35, 36, 37, 38, 39, 40, 41, 42, 43, 44, 45, 46, 47, 48, 49, 50, 51] []) (.fin (.cond (.s 52) (.seq (.fin (.reg g28_7) [1, 5, 6, 13, 14, 15, 52] [(82, 15), (98, 2)]) (.ret)) (.skip)) [52] [])) (.fin (.reg g28_8) [5, 6, 53, 54, 55, 56] [(98, 2)]))))) (.fin (.reg g28_9) [57] [])))
def i28_1 : CW := .loop i28_0
def i28_2 : CW := .blk 0 i28_1
def g28_2 : LS := [o1 12 (fdS 2 1),
 o1 13 (ldS 82 2 12),
 o1 14 (lnS 13),
 o1 15 (.mv false (.k (.sc (.int .i64 0))))]
def i28_3 : CW := .seq (.fin (.reg g28_2) [12] []) i28_2
def g28_12 : LS := [o1 65 (bnS .lss 64 63)]
def g28_13 : LS := [o1 66 (mvS 64),
 o1 67 (ixS 2 62 64),
 o1 68 (.loade 2 true 67),
 o1 9 (.alloc 101 [.sc (.int .i64 0), .sc (.int .i64 0)]),
 o1 8 (mvS 66),
 o0 (.store 101 0 2 false 9 (.s 68))]
def g28_14 : LS := [o1 69 (mvS 7),
 o1 70 (.load 101 0 2 true false 9),
 o1 71 (.call 56 [(false, .s 69), (false, .s 70)] [] []),
 o1 72 (ntS 71),
 o2 73 (mvS 72),
 o3 74 73 false (fdS 11 1),
 o3 75 73 false (ldS 82 11 74),
 o3 76 73 false (mvS 8),
 o3 77 73 false (.slice 2 (.s 75) none (some (.s 76)) none),
 o3 78 73 false (.load 101 0 2 true false 9),
 o3 79 73 false (.call 56 [(false, .s 77), (false, .s 78)] [] []),
 o1 80 (.pick (.s 73) (.k (.sc (.bool true))) (.s 79))]
def g28_15 : LS := [o1 2 (.mv false (.k (.sc (.bool false))))]
def g28_16 : LS := [o1 81 (.bin .add (.s 64) (.k (.sc (.int .i64 1)))),
 o1 64 (mvS 81)]
def i28_4 : CW := .seq (.reg g28_12) (.seq (.fin (.cond (.s 65) (.skip) (.clr [1, 7, 62, 63, 64, 65] [(82, 15)] (.exit 2))) [65] []) (.seq (.blk 3 (.seq (.fin (.reg g28_13) [66, 67, 68] []) (.seq (.fin (.reg g28_14) [8, 9, 69, 70, 71, 72, 73, 74, 75, 76, 77, 78, 79] [(101, 2)]) (.fin (.cond (.s 80) (.seq (.fin (.reg g28_15) [1, 7, 62, 63, 64, 80] [(82, 15)]) (.ret)) (.skip)) [80] [])))) (.fin (.reg g28_16) [81] [])))
def i28_5 : CW := .loop i28_4
def i28_6 : CW := .blk 2 i28_5
def g28_11 : LS := [o1 61 (fdS 11 1),
 o1 62 (ldS 82 11 61),
 o1 63 (lnS 62),
 o1 64 (.mv false (.k (.sc (.int .i64 0))))]
def i28_7 : CW := .seq (.fin (.reg g28_11) [61] []) i28_6
def g28_17 : LS := [o1 2 (.mv false (.k (.sc (.bool true))))]
def i28_8 : CW := .seq (.reg g28_17) (.ret)
def i28_9 : CW := .seq i28_7 i28_8
def g28_10 : LS := [o1 58 (.load 82 0 15 true false 1),
 o1 59 (.call 55 [(false, .s 58)] [] [(4, 15, 104)]),
 o1 60 (.call 1007 [(false, .s 59)] [(104, 15, 5)] []),
 o1 7 (mvS 60)]
def i28_10 : CW := .seq (.fin (.reg g28_10) [58, 59, 60] [(104, 15)]) i28_9
def i28_11 : CW := .seq i28_3 i28_10
def g28_0 : LS := [o1 1 (.box 82 15 false (.s 0)),
 o1 2 (.mv false (.k (.sc (.bool false))))]
def g28_1 : LS := [o1 10 (fdS 0 1),
 o1 11 (ldS 82 0 10),
 o1 3 (mvS 11)]
def i28_12 : CW := .seq (.fin (.reg g28_0) [0, 2] []) (.seq (.fin (.reg g28_1) [10, 11] []) i28_11)
def fn28 : IFn2 RW := ⟨28, 1, 82, 128, [(82, 15), (98, 2), (101, 2), (104, 15)], [], [], [.slot 2], i28_12⟩
def g10_4 : LS := [o1 79 (.load 102 0 15 true false 1),
 o1 80 (.call 28 [(false, .s 79)] [] []),
 o1 81 (ntS 80),
 o2 82 (mvS 81),
 o3 83 82 false (fdS 10 1),
 o3 84 82 false (ldS 102 10 83),
 o3 85 82 false (fdS 9 1),
 o3 86 82 false (ldS 102 9 85),
 o3 87 82 false (fdS 0 1),
 o3 88 82 false (ldS 102 0 87),
 o3 89 82 false (bnS .eql 86 88),
 o3 90 82 false (.eqb true (.s 84) (.s 89)),
 o1 91 (.pick (.s 82) (.k (.sc (.bool true))) (.s 90)),
 o2 92 (mvS 91),
 o3 93 92 false (fdS 10 1),
 o3 94 92 false (ldS 102 10 93),
  ⟨some 95, .mv false (.s 94), (some (92, false)), true⟩,
 o3 96 95 true (fdS 2 1),
 o3 97 95 true (ldS 102 2 96),
 o3 98 95 true (lnS 97),
 o3 99 95 true (.bin .gtr (.s 98) (.k (.sc (.int .i64 0)))),
 o3 100 92 false (.pick (.s 95) (.s 99) (.k (.sc (.bool false)))),
 o1 101 (.pick (.s 92) (.k (.sc (.bool true))) (.s 100))]
def g10_5 : LS := [o1 2 (.mv false (.k (.sc (.int .i64 230))))]
def g10_6 : LS := [o1 2 (.mv false (.k (.sc (.int .i64 0))))]
def i10_0 : CW := .seq (.seq (.fin (.reg g10_4) [1, 79, 80, 81, 82, 83, 84, 85, 86, 87, 88, 89, 90, 91, 92, 93, 94, 95, 96, 97, 98, 99, 100] [(102, 15)]) (.fin (.cond (.s 101) (.seq (.fin (.reg g10_5) [101] []) (.ret)) (.skip)) [101] [])) (.seq (.reg g10_6) (.ret))
def g10_1 : LS := [o1 4 (fdS 0 1),
 o1 5 (ldS 102 0 4),
 o1 6 (.bin .geq (.s 5) (.k (.sc (.int .i64 0)))),
 o2 7 (mvS 6),
 o3 8 7 true (fdS 0 1),
 o3 9 7 true (ldS 102 0 8),
 o3 10 7 true (.bin .leq (.s 9) (.k (.sc (.int .i64 562949953421312)))),
 o1 11 (.pick (.s 7) (.s 10) (.k (.sc (.bool false)))),
 o2 12 (mvS 11),
 o3 13 12 true (fdS 3 1),
 o3 14 12 true (ldS 102 3 13),
 o3 15 12 true (.bin .geq (.s 14) (.k (.sc (.int .i64 1)))),
 o1 16 (.pick (.s 12) (.s 15) (.k (.sc (.bool false)))),
 o2 17 (mvS 16),
 o3 18 17 true (fdS 3 1),
 o3 19 17 true (ldS 102 3 18),
 o3 20 17 true (.bin .leq (.s 19) (.k (.sc (.int .i64 1073741824)))),
 o1 21 (.pick (.s 17) (.s 20) (.k (.sc (.bool false)))),
 o2 22 (mvS 21),
 o3 23 22 true (fdS 4 1),
 o3 24 22 true (ldS 102 4 23),
 o3 25 22 true (.bin .geq (.s 24) (.k (.sc (.int .i64 0)))),
 o1 26 (.pick (.s 22) (.s 25) (.k (.sc (.bool false)))),
 o2 27 (mvS 26),
 o3 28 27 true (fdS 4 1),
 o3 29 27 true (ldS 102 4 28),
 o3 30 27 true (.bin .leq (.s 29) (.k (.sc (.int .i64 14)))),
 o1 31 (.pick (.s 27) (.s 30) (.k (.sc (.bool false)))),
 o2 32 (mvS 31),
 o3 33 32 true (fdS 1 1),
 o3 34 32 true (ldS 102 1 33),
 o3 35 32 true (lnS 34),
 o3 36 32 true (fdS 3 1),
 o3 37 32 true (ldS 102 3 36),
 o3 38 32 true (fdS 0 1),
 o3 39 32 true (ldS 102 0 38),
 o3 40 32 true (.mnmx false [.s 37, .s 39]),
 o3 41 32 true (bnS .leq 35 40),
 o1 42 (.pick (.s 32) (.s 41) (.k (.sc (.bool false)))),
 o1 3 (mvS 42)]
def g10_2 : LS := [o1 43 (mvS 3),
 o1 44 (ntS 43),
 o2 45 (mvS 44),
 o3 46 45 false (fdS 5 1),
 o3 47 45 false (ldS 102 5 46),
 o3 48 45 false (.bin .lss (.s 47) (.k (.sc (.int .i64 0)))),
 o1 49 (.pick (.s 45) (.k (.sc (.bool true))) (.s 48)),
 o2 50 (mvS 49),
 o3 51 50 false (fdS 5 1),
 o3 52 50 false (ldS 102 5 51),
 o3 53 50 false (.load 102 0 15 true false 1),
 o3 54 50 false (.call 27 [(false, .s 53)] [] []),
 o3 55 50 false (bnS .gtr 52 54),
 o1 56 (.pick (.s 50) (.k (.sc (.bool true))) (.s 55)),
 o2 57 (mvS 56),
 o3 58 57 false (fdS 9 1),
 o3 59 57 false (ldS 102 9 58),
 o3 60 57 false (.bin .lss (.s 59) (.k (.sc (.int .i64 (-1))))),
 o1 61 (.pick (.s 57) (.k (.sc (.bool true))) (.s 60)),
 o2 62 (mvS 61),
 o3 63 62 false (fdS 9 1),
 o3 64 62 false (ldS 102 9 63),
 o3 65 62 false (.bin .geq (.s 64) (.k (.sc (.int .i64 0)))),
  ⟨some 66, .mv false (.s 65), (some (62, false)), true⟩,
 o3 67 66 true (fdS 9 1),
 o3 68 66 true (ldS 102 9 67),
 o3 69 66 true (fdS 0 1),
 o3 70 66 true (ldS 102 0 69),
 o3 71 66 true (bnS .lss 68 70),
 o3 72 62 false (.pick (.s 66) (.s 71) (.k (.sc (.bool false)))),
 o1 73 (.pick (.s 62) (.k (.sc (.bool true))) (.s 72)),
 o2 74 (mvS 73),
 o3 75 74 false (fdS 9 1),
 o3 76 74 false (ldS 102 9 75),
 o3 77 74 false (.bin .gtr (.s 76) (.k (.sc (.int .i64 562949953421312)))),
 o1 78 (.pick (.s 74) (.k (.sc (.bool true))) (.s 77))]
def g10_3 : LS := [o1 2 (.mv false (.k (.sc (.int .i64 230))))]
def i10_1 : CW := .seq (.fin (.reg g10_1) [4, 5, 6, 7, 8, 9, 10, 11, 12, 13, 14, 15, 16, 17, 18, 19, 20, 21, 22, 23, 24, 25, 26, 27, 28, 29, 30, 31, 32, 33, 34, 35, 36, 37, 38, 39, 40, 41, 42] []) (.seq (.seq (.fin (.reg g10_2) [3, 43, 44, 45, 46, 47, 48, 49, 50, 51, 52, 53, 54, 55, 56, 57, 58, 59, 60, 61, 62, 63, 64, 65, 66, 67, 68, 69, 70, 71, 72, 73, 74, 75, 76, 77] []) (.fin (.cond (.s 78) (.seq (.fin (.reg g10_3) [1, 78] [(102, 15)]) (.ret)) (.skip)) [78] [])) i10_0)
def g10_0 : LS := [o1 1 (.box 102 15 false (.s 0)),
 o1 2 (.mv false (.k (.sc (.int .i64 0))))]
def i10_2 : CW := .seq (.fin (.reg g10_0) [0, 2] []) i10_1
def fn10 : IFn2 RW := ⟨10, 1, 102, 128, [(102, 15)], [], [], [.slot 2], i10_2⟩
/-! slices.Clone[[]tideway/api.Span,tideway/api.Span] -/
section
variable (cp : CP) (n : Nat) (k : KX R)
def g57_0 : List IStep := [⟨(some 2), .mv true (.k (.row true 2 0 (fun _ => [.sc (.int .i64 0), .sc (.int .i64 0)]))), none, false⟩]
def g57_1 : List IStep := [⟨(some 3), .mv false (.s 0), none, false⟩,
  ⟨(some 4), .nilq false (.s 3), none, false⟩]
def g57_2 : List IStep := [⟨(some 2), .mv true (.k (.row true 2 0 (fun _ => [.sc (.int .i64 0), .sc (.int .i64 0)]))), none, false⟩]
def g57_3 : List IStep := [⟨(some 5), .bslice 2 0 [.sc (.int .i64 0), .sc (.int .i64 0)] [], none, false⟩,
  ⟨(some 6), .mv false (.s 0), none, false⟩,
  ⟨(some 7), .app 2 16 true (.s 5) (.s 6), none, false⟩,
  ⟨(some 2), .mv true (.s 7), none, false⟩]
def fn57 : IFn := ⟨57, 1, 8, 8, [], [], [], [.slot 2],
  .seq (.fin (.reg g57_0) [2] []) (.seq (.seq (.fin (.reg g57_1) [3] []) (.fin (.cond (.s 4) (.seq (.fin (.reg g57_2) [0, 4] []) (.ret)) (.skip)) [4] [])) (.seq (.fin (.reg g57_3) [0, 5, 6, 7] []) (.ret)))⟩

end
/-! bytes.Clone -/
section
variable (cp : CP) (n : Nat) (k : KX R)
def g52_0 : List IStep := [⟨(some 2), .mv true (.k (.row true 1 0 (fun _ => [.sc (.int .u8 0)]))), none, false⟩]
def g52_1 : List IStep := [⟨(some 3), .mv false (.s 0), none, false⟩,
  ⟨(some 4), .nilq false (.s 3), none, false⟩]
def g52_2 : List IStep := [⟨(some 2), .mv true (.k (.row true 1 0 (fun _ => [.sc (.int .u8 0)]))), none, false⟩]
def g52_3 : List IStep := [⟨(some 5), .bslice 1 0 [.sc (.int .u8 0)] [], none, false⟩,
  ⟨(some 6), .mv false (.s 0), none, false⟩,
  ⟨(some 7), .app 1 1 true (.s 5) (.s 6), none, false⟩,
  ⟨(some 2), .mv true (.s 7), none, false⟩]
def fn52 : IFn := ⟨52, 1, 8, 8, [], [], [], [.slot 2],
  .seq (.fin (.reg g52_0) [2] []) (.seq (.seq (.fin (.reg g52_1) [3] []) (.fin (.cond (.s 4) (.seq (.fin (.reg g52_2) [0, 4] []) (.ret)) (.skip)) [4] [])) (.seq (.fin (.reg g52_3) [0, 5, 6, 7] []) (.ret)))⟩

def g29_6 : LS := [o1 21 (bnS .lss 20 19)]
def g29_7 : LS := [o1 22 (ixS 2 18 20),
 o1 23 (.loade 2 true 22),
 o1 5 (.alloc 69 [.sc (.int .i64 0), .row false (.ruint8 [])]),
 o0 (.store 69 0 2 false 5 (.s 23))]
def g29_8 : LS := [o1 24 (fdS 2 1),
 o1 25 (.load 37 2 1 false true 24),
 o1 26 (fdS 0 5),
 o1 27 (ldS 69 0 26),
 o1 28 (fdS 1 5),
 o1 29 (ldS 69 1 28),
 o1 30 (.call 52 [(false, .s 29)] [] []),
 o1 31 (.build [.sc (.int .i64 0), .row false (.ruint8 [])] [(0, 1, .s 27), (1, 1, .s 30)]),
 o1 32 (.bslice 74 1 [(0, 2, .s 31)]),
 o1 33 (.app 2 32 true (.s 25) (.s 32)),
 o1 34 (fdS 2 1),
 o0 (.store 37 2 1 true 34 (.s 33))]
def g29_9 : LS := [o1 35 (.bin .add (.s 20) (.k (.sc (.int .i64 1)))),
 o1 20 (mvS 35)]
def i29_0 : CW := .seq (.reg g29_6) (.seq (.fin (.cond (.s 21) (.skip) (.clr [18, 19, 20, 21] [] (.exit 0))) [21] []) (.seq (.blk 1 (.seq (.fin (.reg g29_7) [22, 23] []) (.fin (.reg g29_8) [5, 24, 25, 26, 27, 28, 29, 30, 31, 32, 33, 34] [(69, 2)]))) (.fin (.reg g29_9) [35] [])))
def i29_1 : CW := .loop i29_0
def i29_2 : CW := .blk 0 i29_1
def g29_5 : LS := [o1 18 (mvS 3),
 o1 19 (lnS 18),
 o1 20 (.mv false (.k (.sc (.int .i64 0))))]
def i29_3 : CW := .seq (.fin (.reg g29_5) [3] []) i29_2
def g29_10 : LS := [o1 36 (.load 37 0 15 true true 1),
 o0 (.store 53 0 15 true 2 (.s 36))]
def i29_4 : CW := .seq (.fin (.reg g29_10) [1, 36] [(37, 15)]) (.ret)
def i29_5 : CW := .seq i29_3 i29_4
def g29_0 : LS := [o1 1 (.box 37 15 true (.s 0)),
 o1 2 (.alloc 53 [.sc (.int .i64 0), .row true (.ruint8 []), .row true (.rPiece []), .sc (.int .i64 0), .sc (.int .i64 0), .sc (.int .i64 0), .sc (.int .u32 0), .sc (.bool false), .sc (.bool false), .sc (.int .i64 0), .sc (.bool false), .row true (.rSpan []), .sc (.int .u32 0), .sc (.int .u32 0), .sc (.bool false)])]
def g29_1 : LS := [o1 6 (.bslice 5 0 []),
 o1 7 (fdS 1 1),
 o1 8 (ldS 37 1 7),
 o1 9 (.app 1 1 true (.s 6) (.s 8)),
 o1 10 (fdS 1 1),
 o0 (.store 37 1 1 true 10 (.s 9))]
def g29_2 : LS := [o1 11 (fdS 11 1),
 o1 12 (ldS 37 11 11),
 o1 13 (.call 57 [(false, .s 12)] [] []),
 o1 14 (fdS 11 1),
 o0 (.store 37 11 1 true 14 (.s 13))]
def g29_3 : LS := [o1 15 (fdS 2 1),
 o1 16 (ldS 37 2 15),
 o1 3 (mvS 16)]
def g29_4 : LS := [o1 17 (fdS 2 1),
 o0 (.store 37 2 1 true 17 (.k (.row true (.rPiece []))))]
def i29_6 : CW := .seq (.fin (.reg g29_0) [0] []) (.seq (.fin (.reg g29_1) [6, 7, 8, 9, 10] []) (.seq (.fin (.reg g29_2) [11, 12, 13, 14] []) (.seq (.fin (.reg g29_3) [15, 16] []) (.seq (.fin (.reg g29_4) [17] []) i29_5))))
def fn29 : IFn2 RW := ⟨29, 1, 37, 80, [(37, 15), (53, 15), (69, 2)], [], [], [.cell 2 53 15 true], i29_6⟩
def g51_0 : LS := [o1 6 (.mv false (.k (.sc (.int .i64 0))))]
def g51_1 : LS := [o1 7 (mvS 1),
 o1 8 (mvS 0),
 o1 9 (mvS 2),
 o1 10 (.mnmx false [.s 8, .s 9]),
 o1 11 (.mnmx true [.s 7, .s 10]),
 o1 6 (mvS 11)]
def i51_0 : CW := .seq (.fin (.reg g51_0) [6] []) (.seq (.fin (.reg g51_1) [0, 1, 2, 7, 8, 9, 10, 11] []) (.ret))
def fn51 : IFn2 RW := ⟨51, 3, 12, 16, [], [], [], [.slot 6], i51_0⟩
def g49_0 : LS := [o1 1 (.box 16 15 false (.s 0)),
 o1 2 (.mv false (.k (.sc (.int .i64 0))))]
def g49_1 : LS := [o1 3 (fdS 3 1),
 o1 4 (ldS 16 3 3),
 o1 5 (fdS 1 1),
 o1 6 (ldS 16 1 5),
 o1 7 (lnS 6),
 o1 8 (bnS .sub 4 7),
 o1 9 (fdS 4 1),
 o1 10 (ldS 16 4 9),
 o1 11 (bnS .shr 8 10),
 o1 12 (.mnmx false [.s 11, .k (.sc (.int .i64 65535))]),
 o1 13 (fdS 4 1),
 o1 14 (ldS 16 4 13),
 o1 15 (bnS .shl 12 14),
 o1 2 (mvS 15)]
def i49_0 : CW := .seq (.fin (.reg g49_0) [0, 2] []) (.seq (.fin (.reg g49_1) [1, 3, 4, 5, 6, 7, 8, 9, 10, 11, 12, 13, 14, 15] [(16, 15)]) (.ret))
def fn49 : IFn2 RW := ⟨49, 1, 16, 32, [(16, 15)], [], [], [.slot 2], i49_0⟩
def g36_0 : LS := [o1 4 (.mv false (.k (.sc (.int .u32 0))))]
def g36_1 : LS := [o1 5 (mvS 0),
 o1 6 (mvS 1),
 o1 7 (.conv .u32 (.s 6)),
 o1 8 (bnS .add 5 7),
 o1 4 (mvS 8)]
def i36_0 : CW := .seq (.fin (.reg g36_0) [4] []) (.seq (.fin (.reg g36_1) [0, 1, 5, 6, 7, 8] []) (.ret))
def fn36 : IFn2 RW := ⟨36, 2, 9, 16, [], [], [], [.slot 4], i36_0⟩
def g32_10 : LS := [o1 42 (bnS .lss 41 40)]
def g32_11 : LS := [o1 43 (ixS 2 39 41),
 o1 44 (.loade 2 true 43),
 o1 10 (.alloc 146 [.sc (.int .i64 0), .sc (.int .i64 0)]),
 o0 (.store 146 0 2 false 10 (.s 44))]
def g32_12 : LS := [o1 45 (fdS 8 2),
 o1 46 (ldS 82 8 45),
 o2 47 (mvS 46),
 o3 48 47 true (fdS 13 7),
 o3 49 47 true (ldS 130 13 48),
 o3 50 47 true (lnS 49),
 o3 51 47 true (mvS 8),
 o3 52 47 true (bnS .lss 50 51),
 o1 53 (.pick (.s 47) (.s 52) (.k (.sc (.bool false))))]
def g32_13 : LS := [o1 54 (fdS 13 7),
 o1 55 (.load 130 13 1 false true 54),
 o1 56 (fdS 12 2),
 o1 57 (ldS 82 12 56),
 o1 58 (fdS 0 10),
 o1 59 (ldS 146 0 58),
 o1 60 (.call 36 [(false, .s 57), (false, .s 59)] [] []),
 o1 61 (fdS 12 2),
 o1 62 (ldS 82 12 61),
 o1 63 (fdS 1 10),
 o1 64 (ldS 146 1 63),
 o1 65 (.call 36 [(false, .s 62), (false, .s 64)] [] []),
 o1 66 (.build [.sc (.int .u32 0), .sc (.int .u32 0)] [(0, 1, .s 60), (1, 1, .s 65)]),
 o1 67 (.bslice 62 1 [(0, 2, .s 66)]),
 o1 68 (.app 2 8 true (.s 55) (.s 67)),
 o1 69 (fdS 13 7),
 o0 (.store 130 13 1 true 69 (.s 68))]
def g32_14 : LS := [o1 70 (.bin .add (.s 41) (.k (.sc (.int .i64 1)))),
 o1 41 (mvS 70)]
def i32_0 : CW := .seq (.reg g32_10) (.seq (.fin (.cond (.s 42) (.skip) (.clr [8, 39, 40, 41, 42] [] (.exit 0))) [42] []) (.seq (.blk 1 (.seq (.fin (.reg g32_11) [43, 44] []) (.seq (.fin (.reg g32_12) [45, 46, 47, 48, 49, 50, 51, 52] []) (.fin (.cond (.s 53) (.fin (.reg g32_13) [10, 53, 54, 55, 56, 57, 58, 59, 60, 61, 62, 63, 64, 65, 66, 67, 68, 69] [(146, 2)]) (.skip)) [10, 53] [(146, 2)])))) (.fin (.reg g32_14) [70] [])))
def i32_1 : CW := .loop i32_0
def i32_2 : CW := .blk 0 i32_1
def g32_9 : LS := [o1 38 (fdS 11 2),
 o1 39 (ldS 82 11 38),
 o1 40 (lnS 39),
 o1 41 (.mv false (.k (.sc (.int .i64 0))))]
def i32_3 : CW := .seq (.fin (.reg g32_9) [38] []) i32_2
def g32_15 : LS := [o1 71 (fdS 5 2),
 o1 72 (ldS 82 5 71),
 o1 73 (fdS 0 2),
 o1 74 (ldS 82 0 73),
 o1 75 (.load 82 0 15 true false 2),
 o1 76 (.call 49 [(false, .s 75)] [] []),
 o1 77 (bnS .add 74 76),
 o1 78 (.mnmx true [.s 72, .s 77]),
 o1 79 (fdS 5 2),
 o0 (.store 82 5 1 false 79 (.s 78))]
def g32_16 : LS := [o1 80 (.load 82 0 15 true true 2),
 o1 81 (.load 130 0 15 true true 7),
 o0 (.store 98 0 15 true 4 (.s 80)),
 o0 (.store 114 0 15 true 5 (.s 81))]
def i32_4 : CW := .seq (.fin (.reg g32_15) [71, 72, 73, 74, 75, 76, 77, 78, 79] []) (.seq (.fin (.reg g32_16) [2, 7, 80, 81] [(82, 15), (130, 15)]) (.ret))
def i32_5 : CW := .seq i32_3 i32_4
def g32_0 : LS := [o1 2 (.box 82 15 true (.s 0)),
 o1 4 (.alloc 98 [.sc (.int .i64 0), .row true (.ruint8 []), .row true (.rPiece []), .sc (.int .i64 0), .sc (.int .i64 0), .sc (.int .i64 0), .sc (.int .u32 0), .sc (.bool false), .sc (.bool false), .sc (.int .i64 0), .sc (.bool false), .row true (.rSpan []), .sc (.int .u32 0), .sc (.int .u32 0), .sc (.bool false)]),
 o1 5 (.alloc 114 [.sc (.int .i64 0), .sc (.int .i64 0), .sc (.int .u32 0), .sc (.int .u32 0), .sc (.int .i64 0), .sc (.int .i64 0), .sc (.int .i64 0), .sc (.int .i64 0), .sc (.int .i64 0), .sc (.bool false), .sc (.bool false), .sc (.int .u32 0), .sc (.int .u32 0), .row true (.rBlock []), .row true (.ruint8 [])])]
def g32_1 : LS := [o1 11 (fdS 0 2),
 o1 12 (ldS 82 0 11),
 o1 6 (mvS 12)]
def g32_2 : LS := [o1 13 (fdS 10 2),
 o1 14 (ldS 82 10 13)]
def g32_3 : LS := [o1 15 (mvS 6),
 o1 16 (.bin .add (.s 15) (.k (.sc (.int .i64 1)))),
 o1 6 (mvS 16)]
def g32_4 : LS := [o1 17 (fdS 13 2),
 o1 18 (ldS 82 13 17),
 o1 19 (fdS 12 2),
 o1 20 (ldS 82 12 19),
 o1 21 (mvS 6),
 o1 22 (.call 36 [(false, .s 20), (false, .s 21)] [] []),
 o1 23 (.load 82 0 15 true false 2),
 o1 24 (.call 49 [(false, .s 23)] [] []),
 o1 25 (fdS 4 2),
 o1 26 (ldS 82 4 25),
 o1 27 (bnS .shr 24 26),
 o1 28 (.mv true (.s 1)),
 o1 29 (.buildl [.sc (.int .i64 0), .sc (.int .i64 0), .sc (.int .u32 0), .sc (.int .u32 0), .sc (.int .i64 0), .sc (.int .i64 0), .sc (.int .i64 0), .sc (.int .i64 0), .sc (.int .i64 0), .sc (.bool false), .sc (.bool false), .sc (.int .u32 0), .sc (.int .u32 0), .row false (.rBlock []), .row false (.ruint8 [])] [(2, 1, .s 18), (3, 1, .s 22), (4, 1, .k (.sc (.int .i64 16))), (5, 1, .s 27), (7, 1, .k (.sc (.int .i64 (-1)))), (8, 1, .k (.sc (.int .i64 (-1)))), (13, 1, .s 28)] 13 28),
 o1 7 (.alloc 130 [.sc (.int .i64 0), .sc (.int .i64 0), .sc (.int .u32 0), .sc (.int .u32 0), .sc (.int .i64 0), .sc (.int .i64 0), .sc (.int .i64 0), .sc (.int .i64 0), .sc (.int .i64 0), .sc (.bool false), .sc (.bool false), .sc (.int .u32 0), .sc (.int .u32 0), .row true (.rBlock []), .row true (.ruint8 [])]),
 o0 (.store 130 0 15 true 7 (.s 29))]
def g32_5 : LS := [o1 8 (.mv false (.k (.sc (.int .i64 4))))]
def g32_6 : LS := [o1 30 (fdS 7 2),
 o1 31 (ldS 82 7 30)]
def g32_7 : LS := [o1 32 (fdS 6 2),
 o1 33 (ldS 82 6 32),
 o1 34 (fdS 10 7),
 o0 (.store 130 10 1 false 34 (.k (.sc (.bool true)))),
 o1 35 (fdS 12 7),
 o0 (.store 130 12 1 false 35 (.s 33))]
def g32_8 : LS := [o1 36 (mvS 8),
 o1 37 (.bin .sub (.s 36) (.k (.sc (.int .i64 1)))),
 o1 8 (mvS 37)]
def i32_6 : CW := .seq (.fin (.reg g32_0) [0] []) (.seq (.fin (.reg g32_1) [11, 12] []) (.seq (.seq (.fin (.reg g32_2) [13] []) (.fin (.cond (.s 14) (.fin (.reg g32_3) [14, 15, 16] []) (.skip)) [14] [])) (.seq (.fin (.reg g32_4) [1, 6, 17, 18, 19, 20, 21, 22, 23, 24, 25, 26, 27, 28, 29] []) (.seq (.reg g32_5) (.seq (.seq (.fin (.reg g32_6) [30] []) (.fin (.cond (.s 31) (.seq (.fin (.reg g32_7) [31, 32, 33, 34, 35] []) (.fin (.reg g32_8) [36, 37] [])) (.skip)) [31] [])) i32_5)))))
def fn32 : IFn2 RW := ⟨32, 2, 82, 160, [(82, 15), (98, 15), (114, 15), (130, 15), (146, 2)], [], [], [.cell 4 98 15 true, .cell 5 114 15 true], i32_6⟩
def g20_8 : LS := [o1 36 (fdS 0 2),
 o1 37 (ldS 60 0 36),
 o1 38 (.load 60 0 15 true false 2),
 o1 39 (.call 49 [(false, .s 38)] [] []),
 o1 40 (bnS .add 37 39),
 o1 41 (fdS 5 2),
 o1 42 (ldS 60 5 41),
 o1 43 (bnS .sub 40 42),
 o1 44 (fdS 3 2),
 o1 45 (ldS 60 3 44),
 o1 46 (.bin .quo (.s 45) (.k (.sc (.int .i64 2)))),
 o1 47 (.mnmx true [.s 46, .k (.sc (.int .i64 1))]),
 o1 48 (bnS .lss 43 47)]
def g20_9 : LS := [o1 49 (.load 60 0 15 true false 2),
 o1 50 (mvS 10),
 o1 51 (.build [.sc (.int .i64 0), .sc (.int .i64 0), .sc (.int .u32 0), .sc (.int .u32 0), .sc (.int .i64 0), .sc (.int .i64 0), .sc (.int .i64 0), .sc (.int .i64 0), .sc (.int .i64 0), .sc (.bool false), .sc (.bool false), .sc (.int .u32 0), .sc (.int .u32 0), .row false (.rBlock []), .row false (.ruint8 [])] []),
 o0 (.store 76 0 15 false 4 (.s 49)),
 o1 5 (mvS 50),
 o0 (.store 92 0 15 false 6 (.s 51)),
 o1 7 (.mv false (.k (.sc (.bool false)))),
 o1 8 (.mv false (.k (.sc (.int .i64 0))))]
def g20_10 : LS := [o1 53 (.load 60 0 15 true false 2),
 o1 54 (.call 32 [(false, .s 53), (true, .k (.row true (.rBlock [])))] [] []),
 o1 52 (mvS 54),
 o1 55 (.ext false 0 (.s 52)),
 o1 56 (.ext false 1 (.s 52)),
 o1 11 (.alloc 108 [.sc (.int .i64 0), .sc (.int .i64 0), .sc (.int .u32 0), .sc (.int .u32 0), .sc (.int .i64 0), .sc (.int .i64 0), .sc (.int .i64 0), .sc (.int .i64 0), .sc (.int .i64 0), .sc (.bool false), .sc (.bool false), .sc (.int .u32 0), .sc (.int .u32 0), .row false (.rBlock []), .row false (.ruint8 [])]),
 o0 (.store 60 0 15 false 2 (.s 55)),
 o0 (.store 108 0 15 false 11 (.s 56))]
def g20_11 : LS := [o1 57 (.load 60 0 15 true false 2),
 o1 58 (mvS 10),
 o1 59 (.load 108 0 15 true false 11),
 o0 (.store 76 0 15 false 4 (.s 57)),
 o1 5 (mvS 58),
 o0 (.store 92 0 15 false 6 (.s 59)),
 o1 7 (.mv false (.k (.sc (.bool true)))),
 o1 8 (.mv false (.k (.sc (.int .i64 0))))]
def i20_0 : CW := .seq (.seq (.fin (.reg g20_8) [36, 37, 38, 39, 40, 41, 42, 43, 44, 45, 46, 47] []) (.fin (.cond (.s 48) (.seq (.fin (.reg g20_9) [2, 10, 48, 49, 50, 51] [(60, 15)]) (.wk [5, 7, 8] (.ret))) (.skip)) [48] [])) (.seq (.fin (.reg g20_10) [52, 53, 54, 55, 56] []) (.seq (.fin (.reg g20_11) [2, 10, 11, 57, 58, 59] [(60, 15), (108, 15)]) (.wk [5, 7, 8] (.ret))))
def g20_0 : LS := [o1 2 (.box 60 15 false (.s 0)),
 o1 4 (.alloc 76 [.sc (.int .i64 0), .row false (.ruint8 []), .row false (.rPiece []), .sc (.int .i64 0), .sc (.int .i64 0), .sc (.int .i64 0), .sc (.int .u32 0), .sc (.bool false), .sc (.bool false), .sc (.int .i64 0), .sc (.bool false), .row false (.rSpan []), .sc (.int .u32 0), .sc (.int .u32 0), .sc (.bool false)]),
 o1 5 (.mv false (.k (.row false (.ruint8 [])))),
 o1 6 (.alloc 92 [.sc (.int .i64 0), .sc (.int .i64 0), .sc (.int .u32 0), .sc (.int .u32 0), .sc (.int .i64 0), .sc (.int .i64 0), .sc (.int .i64 0), .sc (.int .i64 0), .sc (.int .i64 0), .sc (.bool false), .sc (.bool false), .sc (.int .u32 0), .sc (.int .u32 0), .row false (.rBlock []), .row false (.ruint8 [])]),
 o1 7 (.mv false (.k (.sc (.bool false)))),
 o1 8 (.mv false (.k (.sc (.int .i64 0))))]
def g20_1 : LS := [o1 12 (.load 60 0 15 true false 2),
 o1 13 (.call 10 [(false, .s 12)] [] []),
 o1 9 (mvS 13)]
def g20_2 : LS := [o1 14 (mvS 9),
 o1 15 (.bin .neq (.s 14) (.k (.sc (.int .i64 0))))]
def g20_3 : LS := [o1 16 (.build [.sc (.int .i64 0), .row false (.ruint8 []), .row false (.rPiece []), .sc (.int .i64 0), .sc (.int .i64 0), .sc (.int .i64 0), .sc (.int .u32 0), .sc (.bool false), .sc (.bool false), .sc (.int .i64 0), .sc (.bool false), .row false (.rSpan []), .sc (.int .u32 0), .sc (.int .u32 0), .sc (.bool false)] []),
 o1 17 (.build [.sc (.int .i64 0), .sc (.int .i64 0), .sc (.int .u32 0), .sc (.int .u32 0), .sc (.int .i64 0), .sc (.int .i64 0), .sc (.int .i64 0), .sc (.int .i64 0), .sc (.int .i64 0), .sc (.bool false), .sc (.bool false), .sc (.int .u32 0), .sc (.int .u32 0), .row false (.rBlock []), .row false (.ruint8 [])] []),
 o1 18 (mvS 9),
 o0 (.store 76 0 15 false 4 (.s 16)),
 o1 5 (.mv false (.k (.row false (.ruint8 [])))),
 o0 (.store 92 0 15 false 6 (.s 17)),
 o1 7 (.mv false (.k (.sc (.bool false)))),
 o1 8 (mvS 18)]
def g20_4 : LS := [o1 19 (.load 60 0 15 true false 2),
 o1 20 (.call 29 [(false, .s 19)] [] []),
 o0 (.store 60 0 15 false 2 (.s 20))]
def g20_5 : LS := [o1 21 (mvS 1),
 o1 22 (fdS 1 2),
 o1 23 (ldS 60 1 22),
 o1 24 (lnS 23),
 o1 25 (.call 51 [(false, .s 21), (false, .k (.sc (.int .i64 0))), (false, .s 24)] [] []),
 o1 1 (mvS 25)]
def g20_6 : LS := [o1 26 (fdS 1 2),
 o1 27 (ldS 60 1 26),
 o1 28 (mvS 1),
 o1 29 (.slice 1 (.s 27) none (some (.s 28)) none),
 o1 30 (.call 52 [(false, .s 29)] [] []),
 o1 10 (mvS 30)]
def g20_7 : LS := [o1 31 (fdS 1 2),
 o1 32 (ldS 60 1 31),
 o1 33 (mvS 1),
 o1 34 (.slice 1 (.s 32) (some (.s 33)) none none),
 o1 35 (fdS 1 2),
 o0 (.store 60 1 1 false 35 (.s 34))]
def i20_1 : CW := .seq (.fin (.reg g20_0) [0, 5, 7, 8] []) (.seq (.seq (.fin (.reg g20_1) [12, 13] []) (.seq (.fin (.reg g20_2) [14] []) (.fin (.cond (.s 15) (.seq (.fin (.reg g20_3) [1, 2, 9, 15, 16, 17, 18] [(60, 15)]) (.wk [5, 7, 8] (.ret))) (.skip)) [9, 15] []))) (.seq (.fin (.reg g20_4) [19, 20] []) (.seq (.fin (.reg g20_5) [21, 22, 23, 24, 25] []) (.seq (.fin (.reg g20_6) [26, 27, 28, 29, 30] []) (.seq (.fin (.reg g20_7) [1, 31, 32, 33, 34, 35] []) i20_0)))))
def fn20 : IFn2 RW := ⟨20, 2, 60, 128, [(60, 15), (76, 15), (92, 15), (108, 15)], [], [], [.cell 4 76 15 true, .slot 5, .cell 6 92 15 true, .slot 7, .slot 8], i20_1⟩
def g46_0 : LS := [o1 1 (.box 12 15 false (.s 0)),
 o1 2 (.mv false (.k (.sc (.int .i64 0))))]
def g46_1 : LS := [o1 3 (fdS 0 1),
 o1 4 (ldS 12 0 3),
 o1 5 (fdS 1 1),
 o1 6 (ldS 12 1 5),
 o1 7 (lnS 6),
 o1 8 (bnS .sub 4 7),
 o1 9 (fdS 3 1),
 o1 10 (ldS 12 3 9),
 o1 11 (bnS .add 8 10),
 o1 2 (mvS 11)]
def i46_0 : CW := .seq (.fin (.reg g46_0) [0, 2] []) (.seq (.fin (.reg g46_1) [1, 3, 4, 5, 6, 7, 8, 9, 10, 11] [(12, 15)]) (.ret))
def fn46 : IFn2 RW := ⟨46, 1, 12, 32, [(12, 15)], [], [], [.slot 2], i46_0⟩
def g42_0 : LS := [o1 1 (.box 6 15 false (.s 0)),
 o1 2 (.mv false (.k (.sc (.int .i64 0))))]
def g42_1 : LS := [o1 3 (.load 6 0 15 true false 1),
 o1 4 (.call 46 [(false, .s 3)] [] []),
 o1 5 (.mnmx false [.s 4, .k (.sc (.int .i64 562949953421312))]),
 o1 2 (mvS 5)]
def i42_0 : CW := .seq (.fin (.reg g42_0) [0, 2] []) (.seq (.fin (.reg g42_1) [1, 3, 4, 5] [(6, 15)]) (.ret))
def fn42 : IFn2 RW := ⟨42, 1, 6, 32, [(6, 15)], [], [], [.slot 2], i42_0⟩
def g47_3 : LS := [o1 5 (mvS 4),
 o1 6 (mvS 0),
 o1 7 (lnS 6),
 o1 8 (bnS .lss 5 7)]
def g47_5 : LS := [o1 11 (.mv true (.s 3)),
 o1 12 (mvS 0),
 o1 13 (mvS 4),
 o1 14 (ixS 2 12 13),
 o1 15 (fdS 0 14),
 o1 16 (.loade 1 false 15),
 o1 17 (mvS 0),
 o1 18 (mvS 4),
 o1 19 (ixS 2 17 18),
 o1 20 (fdS 0 19),
 o1 21 (.loade 1 false 20),
 o1 22 (mvS 0),
 o1 23 (mvS 4),
 o1 24 (ixS 2 22 23),
 o1 25 (fdS 1 24),
 o1 26 (.loade 1 false 25),
 o1 27 (lnS 26),
 o1 28 (bnS .add 21 27),
 o1 29 (.build [.sc (.int .i64 0), .sc (.int .i64 0)] [(0, 1, .s 16), (1, 1, .s 28)]),
 o1 30 (.bslice 78 1 [(0, 2, .s 29)]),
 o1 31 (.app 2 16 true (.s 11) (.s 30)),
 o1 3 (.mv true (.s 31))]
def g47_4 : LS := [o1 9 (mvS 4),
 o1 10 (.bin .add (.s 9) (.k (.sc (.int .i64 1)))),
 o1 4 (mvS 10)]
def i47_0 : CW := .seq (.seq (.fin (.reg g47_3) [5, 6, 7] []) (.fin (.cond (.s 8) (.skip) (.clr [0, 4, 8] [] (.exit 0))) [8] [])) (.seq (.blk 1 (.fin (.reg g47_5) [11, 12, 13, 14, 15, 16, 17, 18, 19, 20, 21, 22, 23, 24, 25, 26, 27, 28, 29, 30, 31] [])) (.fin (.reg g47_4) [9, 10] []))
def i47_1 : CW := .loop i47_0
def i47_2 : CW := .blk 0 i47_1
def g47_2 : LS := [o1 4 (.mv false (.k (.sc (.int .i64 0))))]
def i47_3 : CW := .seq (.reg g47_2) i47_2
def g47_6 : LS := [o1 32 (mvS 3),
 o1 2 (mvS 32)]
def i47_4 : CW := .seq (.fin (.reg g47_6) [3, 32] []) (.ret)
def i47_5 : CW := .seq i47_3 i47_4
def g47_0 : LS := [o1 2 (.mv false (.k (.row false (.rSpan []))))]
def g47_1 : LS := [o1 3 (.mv true (.k (.row true (.rSpan []))))]
def i47_6 : CW := .seq (.fin (.reg g47_0) [2] []) (.seq (.reg g47_1) i47_5)
def fn47 : IFn2 RW := ⟨47, 1, 33, 48, [], [], [], [.slot 2], i47_6⟩
def g48_2 : LS := [o1 6 (mvS 5),
 o1 7 (mvS 1),
 o1 8 (lnS 7),
 o1 9 (bnS .lss 6 8)]
def g48_4 : LS := [o1 12 (mvS 1),
 o1 13 (mvS 5),
 o1 14 (ixS 2 12 13),
 o1 15 (.loade 2 true 14),
 o1 16 (.load 18 0 2 true false 2),
 o1 17 (.eqs [true, true] false (.s 15) (.s 16))]
def g48_5 : LS := [o1 4 (.mv false (.k (.sc (.bool true))))]
def g48_3 : LS := [o1 10 (mvS 5),
 o1 11 (.bin .add (.s 10) (.k (.sc (.int .i64 1)))),
 o1 5 (mvS 11)]
def i48_0 : CW := .seq (.seq (.fin (.reg g48_2) [6, 7, 8] []) (.fin (.cond (.s 9) (.skip) (.clr [1, 2, 5, 9] [(18, 2)] (.exit 0))) [9] [])) (.seq (.blk 1 (.seq (.fin (.reg g48_4) [12, 13, 14, 15, 16] []) (.fin (.cond (.s 17) (.seq (.fin (.reg g48_5) [1, 2, 5, 17] [(18, 2)]) (.ret)) (.skip)) [17] []))) (.fin (.reg g48_3) [10, 11] []))
def i48_1 : CW := .loop i48_0
def i48_2 : CW := .blk 0 i48_1
def g48_1 : LS := [o1 5 (.mv false (.k (.sc (.int .i64 0))))]
def i48_3 : CW := .seq (.reg g48_1) i48_2
def g48_6 : LS := [o1 4 (.mv false (.k (.sc (.bool false))))]
def i48_4 : CW := .seq (.reg g48_6) (.ret)
def i48_5 : CW := .seq i48_3 i48_4
def g48_0 : LS := [o1 2 (.box 18 2 false (.s 0)),
 o1 4 (.mv false (.k (.sc (.bool false))))]
def i48_6 : CW := .seq (.fin (.reg g48_0) [0, 4] []) i48_5
def fn48 : IFn2 RW := ⟨48, 2, 18, 32, [(18, 2)], [], [], [.slot 4], i48_6⟩
def g16_7 : LS := [o1 86 (mvS 4),
 o1 87 (fdS 2 1),
 o1 88 (ldS 199 2 87),
 o1 89 (lnS 88),
 o1 90 (bnS .lss 86 89)]
def g16_9 : LS := [o1 93 (fdS 2 1),
 o1 94 (ldS 199 2 93),
 o1 95 (mvS 4),
 o1 96 (ixS 2 94 95),
 o1 97 (fdS 1 96),
 o1 98 (.loade 1 false 97),
 o1 99 (lnS 98),
 o1 5 (mvS 99)]
def g16_10 : LS := [o1 100 (mvS 5),
 o1 101 (.bin .lss (.s 100) (.k (.sc (.int .i64 1)))),
 o2 102 (mvS 101),
 o3 103 102 false (fdS 2 1),
 o3 104 102 false (ldS 199 2 103),
 o3 105 102 false (mvS 4),
 o3 106 102 false (ixS 2 104 105),
 o3 107 102 false (fdS 0 106),
 o3 108 102 false (.loade 1 false 107),
 o3 109 102 false (mvS 3),
 o3 110 102 false (bnS .leq 108 109),
 o1 111 (.pick (.s 102) (.k (.sc (.bool true))) (.s 110)),
 o2 112 (mvS 111),
 o3 113 112 false (fdS 2 1),
 o3 114 112 false (ldS 199 2 113),
 o3 115 112 false (mvS 4),
 o3 116 112 false (ixS 2 114 115),
 o3 117 112 false (fdS 0 116),
 o3 118 112 false (.loade 1 false 117),
 o3 119 112 false (.load 199 0 15 true false 1),
 o3 120 112 false (.call 42 [(false, .s 119)] [] []),
 o3 121 112 false (mvS 5),
 o3 122 112 false (bnS .sub 120 121),
 o3 123 112 false (bnS .gtr 118 122),
 o1 124 (.pick (.s 112) (.k (.sc (.bool true))) (.s 123)),
 o2 125 (mvS 124),
 o3 126 125 false (fdS 9 1),
 o3 127 125 false (ldS 199 9 126),
 o3 128 125 false (.bin .geq (.s 127) (.k (.sc (.int .i64 0)))),
  ⟨some 129, .mv false (.s 128), (some (125, false)), true⟩,
 o3 130 129 true (fdS 2 1),
 o3 131 129 true (ldS 199 2 130),
 o3 132 129 true (mvS 4),
 o3 133 129 true (ixS 2 131 132),
 o3 134 129 true (fdS 0 133),
 o3 135 129 true (.loade 1 false 134),
 o3 136 129 true (fdS 9 1),
 o3 137 129 true (ldS 199 9 136),
 o3 138 129 true (mvS 5),
 o3 139 129 true (bnS .sub 137 138),
 o3 140 129 true (bnS .gtr 135 139),
 o3 141 125 false (.pick (.s 129) (.s 140) (.k (.sc (.bool false)))),
 o1 142 (.pick (.s 125) (.k (.sc (.bool true))) (.s 141))]
def g16_11 : LS := [o1 2 (.mv false (.k (.sc (.int .i64 230))))]
def g16_12 : LS := [o1 143 (fdS 2 1),
 o1 144 (ldS 199 2 143),
 o1 145 (mvS 4),
 o1 146 (ixS 2 144 145),
 o1 147 (fdS 0 146),
 o1 148 (.loade 1 false 147),
 o1 149 (mvS 5),
 o1 150 (bnS .add 148 149),
 o1 3 (mvS 150)]
def g16_8 : LS := [o1 91 (mvS 4),
 o1 92 (.bin .add (.s 91) (.k (.sc (.int .i64 1)))),
 o1 4 (mvS 92)]
def i16_0 : CW := .seq (.seq (.fin (.reg g16_7) [86, 87, 88, 89] []) (.fin (.cond (.s 90) (.skip) (.clr [3, 4, 90] [] (.exit 0))) [90] [])) (.seq (.blk 1 (.seq (.fin (.reg g16_9) [93, 94, 95, 96, 97, 98, 99] []) (.seq (.seq (.fin (.reg g16_10) [3, 100, 101, 102, 103, 104, 105, 106, 107, 108, 109, 110, 111, 112, 113, 114, 115, 116, 117, 118, 119, 120, 121, 122, 123, 124, 125, 126, 127, 128, 129, 130, 131, 132, 133, 134, 135, 136, 137, 138, 139, 140, 141] []) (.fin (.cond (.s 142) (.seq (.fin (.reg g16_11) [1, 4, 5, 142] [(199, 15)]) (.ret)) (.skip)) [142] [])) (.fin (.reg g16_12) [5, 143, 144, 145, 146, 147, 148, 149, 150] [])))) (.fin (.reg g16_8) [91, 92] []))
def i16_1 : CW := .loop i16_0
def i16_2 : CW := .blk 0 i16_1
def g16_6 : LS := [o1 4 (.mv false (.k (.sc (.int .i64 0))))]
def i16_3 : CW := .seq (.reg g16_6) i16_2
def g16_15 : LS := [o1 154 (mvS 7),
 o1 155 (fdS 11 1),
 o1 156 (ldS 199 11 155),
 o1 157 (lnS 156),
 o1 158 (bnS .lss 154 157)]
def g16_17 : LS := [o1 161 (fdS 11 1),
 o1 162 (ldS 199 11 161),
 o1 163 (mvS 7),
 o1 164 (ixS 2 162 163),
 o1 165 (.loade 2 true 164),
 o1 166 (mvS 6),
 o1 167 (.call 48 [(false, .s 165), (false, .s 166)] [] []),
 o1 168 (ntS 167),
 o2 169 (mvS 168),
 o3 170 169 false (fdS 11 1),
 o3 171 169 false (ldS 199 11 170),
 o3 172 169 false (mvS 7),
 o3 173 169 false (ixS 2 171 172),
 o3 174 169 false (.loade 2 true 173),
 o3 175 169 false (fdS 11 1),
 o3 176 169 false (ldS 199 11 175),
 o3 177 169 false (mvS 7),
 o3 178 169 false (.slice 2 (.s 176) none (some (.s 177)) none),
 o3 179 169 false (.call 48 [(false, .s 174), (false, .s 178)] [] []),
 o1 180 (.pick (.s 169) (.k (.sc (.bool true))) (.s 179))]
def g16_18 : LS := [o1 2 (.mv false (.k (.sc (.int .i64 230))))]
def g16_16 : LS := [o1 159 (mvS 7),
 o1 160 (.bin .add (.s 159) (.k (.sc (.int .i64 1)))),
 o1 7 (mvS 160)]
def i16_4 : CW := .seq (.seq (.fin (.reg g16_15) [154, 155, 156, 157] []) (.fin (.cond (.s 158) (.skip) (.clr [6, 7, 158] [] (.exit 2))) [158] [])) (.seq (.blk 3 (.seq (.fin (.reg g16_17) [161, 162, 163, 164, 165, 166, 167, 168, 169, 170, 171, 172, 173, 174, 175, 176, 177, 178, 179] []) (.fin (.cond (.s 180) (.seq (.fin (.reg g16_18) [1, 6, 7, 180] [(199, 15)]) (.ret)) (.skip)) [180] []))) (.fin (.reg g16_16) [159, 160] []))
def i16_5 : CW := .loop i16_4
def i16_6 : CW := .blk 2 i16_5
def g16_14 : LS := [o1 7 (.mv false (.k (.sc (.int .i64 0))))]
def i16_7 : CW := .seq (.reg g16_14) i16_6
def g16_19 : LS := [o1 181 (fdS 10 1),
 o1 182 (ldS 199 10 181),
 o1 183 (fdS 9 1),
 o1 184 (ldS 199 9 183),
 o1 185 (fdS 0 1),
 o1 186 (ldS 199 0 185),
 o1 187 (bnS .eql 184 186),
 o1 188 (.eqb true (.s 182) (.s 187)),
 o2 189 (mvS 188),
 o3 190 189 false (fdS 10 1),
 o3 191 189 false (ldS 199 10 190),
  ⟨some 192, .mv false (.s 191), (some (189, false)), true⟩,
 o3 193 192 true (fdS 2 1),
 o3 194 192 true (ldS 199 2 193),
 o3 195 192 true (lnS 194),
 o3 196 192 true (.bin .gtr (.s 195) (.k (.sc (.int .i64 0)))),
 o3 197 189 false (.pick (.s 192) (.s 196) (.k (.sc (.bool false)))),
 o1 198 (.pick (.s 189) (.k (.sc (.bool true))) (.s 197))]
def g16_20 : LS := [o1 2 (.mv false (.k (.sc (.int .i64 230))))]
def g16_21 : LS := [o1 2 (.mv false (.k (.sc (.int .i64 0))))]
def i16_8 : CW := .seq (.seq (.fin (.reg g16_19) [1, 181, 182, 183, 184, 185, 186, 187, 188, 189, 190, 191, 192, 193, 194, 195, 196, 197] [(199, 15)]) (.fin (.cond (.s 198) (.seq (.fin (.reg g16_20) [198] []) (.ret)) (.skip)) [198] [])) (.seq (.reg g16_21) (.ret))
def i16_9 : CW := .seq i16_7 i16_8
def g16_13 : LS := [o1 151 (fdS 2 1),
 o1 152 (ldS 199 2 151),
 o1 153 (.call 47 [(false, .s 152)] [] []),
 o1 6 (mvS 153)]
def i16_10 : CW := .seq (.fin (.reg g16_13) [151, 152, 153] []) i16_9
def i16_11 : CW := .seq i16_3 i16_10
def g16_3 : LS := [o1 52 (fdS 9 1),
 o1 53 (ldS 199 9 52),
 o1 54 (.bin .lss (.s 53) (.k (.sc (.int .i64 (-1))))),
 o2 55 (mvS 54),
 o3 56 55 false (fdS 9 1),
 o3 57 55 false (ldS 199 9 56),
 o3 58 55 false (.bin .geq (.s 57) (.k (.sc (.int .i64 0)))),
  ⟨some 59, .mv false (.s 58), (some (55, false)), true⟩,
 o3 60 59 true (fdS 9 1),
 o3 61 59 true (ldS 199 9 60),
 o3 62 59 true (fdS 0 1),
 o3 63 59 true (ldS 199 0 62),
 o3 64 59 true (bnS .lss 61 63),
 o3 65 55 false (.pick (.s 59) (.s 64) (.k (.sc (.bool false)))),
 o1 66 (.pick (.s 55) (.k (.sc (.bool true))) (.s 65)),
 o2 67 (mvS 66),
 o3 68 67 false (fdS 9 1),
 o3 69 67 false (ldS 199 9 68),
 o3 70 67 false (.bin .gtr (.s 69) (.k (.sc (.int .i64 562949953421312)))),
 o1 71 (.pick (.s 67) (.k (.sc (.bool true))) (.s 70)),
 o2 72 (mvS 71),
 o3 73 72 false (fdS 5 1),
 o3 74 72 false (ldS 199 5 73),
 o3 75 72 false (.bin .lss (.s 74) (.k (.sc (.int .i64 0)))),
 o1 76 (.pick (.s 72) (.k (.sc (.bool true))) (.s 75)),
 o2 77 (mvS 76),
 o3 78 77 false (fdS 5 1),
 o3 79 77 false (ldS 199 5 78),
 o3 80 77 false (.load 199 0 15 true false 1),
 o3 81 77 false (.call 46 [(false, .s 80)] [] []),
 o3 82 77 false (bnS .gtr 79 81),
 o1 83 (.pick (.s 77) (.k (.sc (.bool true))) (.s 82))]
def g16_4 : LS := [o1 2 (.mv false (.k (.sc (.int .i64 230))))]
def g16_5 : LS := [o1 84 (fdS 0 1),
 o1 85 (ldS 199 0 84),
 o1 3 (mvS 85)]
def i16_12 : CW := .seq (.seq (.fin (.reg g16_3) [52, 53, 54, 55, 56, 57, 58, 59, 60, 61, 62, 63, 64, 65, 66, 67, 68, 69, 70, 71, 72, 73, 74, 75, 76, 77, 78, 79, 80, 81, 82] []) (.fin (.cond (.s 83) (.seq (.fin (.reg g16_4) [1, 83] [(199, 15)]) (.ret)) (.skip)) [83] [])) (.seq (.fin (.reg g16_5) [84, 85] []) i16_11)
def g16_0 : LS := [o1 1 (.box 199 15 false (.s 0)),
 o1 2 (.mv false (.k (.sc (.int .i64 0))))]
def g16_1 : LS := [o1 8 (fdS 0 1),
 o1 9 (ldS 199 0 8),
 o1 10 (.bin .lss (.s 9) (.k (.sc (.int .i64 0)))),
 o2 11 (mvS 10),
 o3 12 11 false (fdS 0 1),
 o3 13 11 false (ldS 199 0 12),
 o3 14 11 false (.bin .gtr (.s 13) (.k (.sc (.int .i64 562949953421312)))),
 o1 15 (.pick (.s 11) (.k (.sc (.bool true))) (.s 14)),
 o2 16 (mvS 15),
 o3 17 16 false (fdS 3 1),
 o3 18 16 false (ldS 199 3 17),
 o3 19 16 false (.bin .lss (.s 18) (.k (.sc (.int .i64 1)))),
 o1 20 (.pick (.s 16) (.k (.sc (.bool true))) (.s 19)),
 o2 21 (mvS 20),
 o3 22 21 false (fdS 3 1),
 o3 23 21 false (ldS 199 3 22),
 o3 24 21 false (.bin .gtr (.s 23) (.k (.sc (.int .i64 1073741824)))),
 o1 25 (.pick (.s 21) (.k (.sc (.bool true))) (.s 24)),
 o2 26 (mvS 25),
 o3 27 26 false (fdS 4 1),
 o3 28 26 false (ldS 199 4 27),
 o3 29 26 false (.bin .lss (.s 28) (.k (.sc (.int .i64 0)))),
 o1 30 (.pick (.s 26) (.k (.sc (.bool true))) (.s 29)),
 o2 31 (mvS 30),
 o3 32 31 false (fdS 4 1),
 o3 33 31 false (ldS 199 4 32),
 o3 34 31 false (.bin .gtr (.s 33) (.k (.sc (.int .i64 14)))),
 o1 35 (.pick (.s 31) (.k (.sc (.bool true))) (.s 34)),
 o2 36 (mvS 35),
 o3 37 36 false (fdS 1 1),
 o3 38 36 false (ldS 199 1 37),
 o3 39 36 false (lnS 38),
 o3 40 36 false (fdS 3 1),
 o3 41 36 false (ldS 199 3 40),
 o3 42 36 false (bnS .gtr 39 41),
 o1 43 (.pick (.s 36) (.k (.sc (.bool true))) (.s 42)),
 o2 44 (mvS 43),
 o3 45 44 false (fdS 1 1),
 o3 46 44 false (ldS 199 1 45),
 o3 47 44 false (lnS 46),
 o3 48 44 false (fdS 0 1),
 o3 49 44 false (ldS 199 0 48),
 o3 50 44 false (bnS .gtr 47 49),
 o1 51 (.pick (.s 44) (.k (.sc (.bool true))) (.s 50))]
def g16_2 : LS := [o1 2 (.mv false (.k (.sc (.int .i64 230))))]
def i16_13 : CW := .seq (.fin (.reg g16_0) [0, 2] []) (.seq (.seq (.fin (.reg g16_1) [8, 9, 10, 11, 12, 13, 14, 15, 16, 17, 18, 19, 20, 21, 22, 23, 24, 25, 26, 27, 28, 29, 30, 31, 32, 33, 34, 35, 36, 37, 38, 39, 40, 41, 42, 43, 44, 45, 46, 47, 48, 49, 50] []) (.fin (.cond (.s 51) (.seq (.fin (.reg g16_2) [1, 51] [(199, 15)]) (.ret)) (.skip)) [51] [])) i16_12)
def fn16 : IFn2 RW := ⟨16, 1, 199, 224, [(199, 15)], [], [], [.slot 2], i16_13⟩
def g37_5 : LS := [o1 12 (mvS 4),
 o1 13 (fdS 2 1),
 o1 14 (ldS 45 2 13),
 o1 15 (lnS 14),
 o1 16 (bnS .lss 12 15)]
def g37_7 : LS := [o1 19 (fdS 2 3),
 o1 20 (.load 77 2 1 false true 19),
 o1 21 (fdS 2 1),
 o1 22 (ldS 45 2 21),
 o1 23 (mvS 4),
 o1 24 (ixS 2 22 23),
 o1 25 (fdS 0 24),
 o1 26 (.loade 1 false 25),
 o1 27 (.bslice 5 0 []),
 o1 28 (fdS 2 1),
 o1 29 (ldS 45 2 28),
 o1 30 (mvS 4),
 o1 31 (ixS 2 29 30),
 o1 32 (fdS 1 31),
 o1 33 (.loade 1 false 32),
 o1 34 (.app 1 1 true (.s 27) (.s 33)),
 o1 35 (.build [.sc (.int .i64 0), .row false (.ruint8 [])] [(0, 1, .s 26), (1, 1, .s 34)]),
 o1 36 (.bslice 74 1 [(0, 2, .s 35)]),
 o1 37 (.app 2 32 true (.s 20) (.s 36)),
 o1 38 (fdS 2 3),
 o0 (.store 77 2 1 true 38 (.s 37))]
def g37_6 : LS := [o1 17 (mvS 4),
 o1 18 (.bin .add (.s 17) (.k (.sc (.int .i64 1)))),
 o1 4 (mvS 18)]
def i37_0 : CW := .seq (.seq (.fin (.reg g37_5) [12, 13, 14, 15] []) (.fin (.cond (.s 16) (.skip) (.clr [4, 16] [] (.exit 0))) [16] [])) (.seq (.blk 1 (.fin (.reg g37_7) [19, 20, 21, 22, 23, 24, 25, 26, 27, 28, 29, 30, 31, 32, 33, 34, 35, 36, 37, 38] [])) (.fin (.reg g37_6) [17, 18] []))
def i37_1 : CW := .loop i37_0
def i37_2 : CW := .blk 0 i37_1
def g37_4 : LS := [o1 4 (.mv false (.k (.sc (.int .i64 0))))]
def i37_3 : CW := .seq (.reg g37_4) i37_2
def g37_8 : LS := [o1 39 (.bslice 78 0 []),
 o1 40 (fdS 11 1),
 o1 41 (ldS 45 11 40),
 o1 42 (.app 2 16 true (.s 39) (.s 41)),
 o1 43 (fdS 11 3),
 o0 (.store 77 11 1 false 43 (.s 42))]
def g37_9 : LS := [o1 44 (.load 77 0 15 true false 3),
 o0 (.store 61 0 15 false 2 (.s 44))]
def i37_4 : CW := .seq (.fin (.reg g37_8) [1, 39, 40, 41, 42, 43] [(45, 15)]) (.seq (.fin (.reg g37_9) [3, 44] [(77, 15)]) (.ret))
def i37_5 : CW := .seq i37_3 i37_4
def g37_0 : LS := [o1 1 (.box 45 15 true (.s 0)),
 o1 2 (.alloc 61 [.sc (.int .i64 0), .row false (.ruint8 []), .row false (.rPiece []), .sc (.int .i64 0), .sc (.int .i64 0), .sc (.int .i64 0), .sc (.int .u32 0), .sc (.bool false), .sc (.bool false), .sc (.int .i64 0), .sc (.bool false), .row false (.rSpan []), .sc (.int .u32 0), .sc (.int .u32 0), .sc (.bool false)])]
def g37_1 : LS := [o1 5 (.load 45 0 15 true true 1),
 o1 3 (.alloc 77 [.sc (.int .i64 0), .row false (.ruint8 []), .row true (.rPiece []), .sc (.int .i64 0), .sc (.int .i64 0), .sc (.int .i64 0), .sc (.int .u32 0), .sc (.bool false), .sc (.bool false), .sc (.int .i64 0), .sc (.bool false), .row false (.rSpan []), .sc (.int .u32 0), .sc (.int .u32 0), .sc (.bool false)]),
 o0 (.store 77 0 15 true 3 (.s 5))]
def g37_2 : LS := [o1 6 (.bslice 5 0 []),
 o1 7 (fdS 1 1),
 o1 8 (ldS 45 1 7),
 o1 9 (.app 1 1 true (.s 6) (.s 8)),
 o1 10 (fdS 1 3),
 o0 (.store 77 1 1 false 10 (.s 9))]
def g37_3 : LS := [o1 11 (fdS 2 3),
 o0 (.store 77 2 1 true 11 (.k (.row true (.rPiece []))))]
def i37_6 : CW := .seq (.fin (.reg g37_0) [0] []) (.seq (.fin (.reg g37_1) [5] []) (.seq (.fin (.reg g37_2) [6, 7, 8, 9, 10] []) (.seq (.fin (.reg g37_3) [11] []) i37_5)))
def fn37 : IFn2 RW := ⟨37, 1, 45, 96, [(45, 15), (61, 15), (77, 15)], [], [], [.cell 2 61 15 true], i37_6⟩
def g50_0 : LS := [o1 1 (.box 19 15 false (.s 0)),
 o1 2 (.mv false (.k (.sc (.int .i64 0))))]
def g50_1 : LS := [o1 4 (fdS 4 1),
 o1 5 (ldS 19 4 4),
 o1 6 (.conv .u64 (.s 5)),
 o1 7 (.bin .shl (.k (.sc (.int .i64 1))) (.s 6)),
 o1 3 (mvS 7)]
def g50_2 : LS := [o1 8 (fdS 3 1),
 o1 9 (ldS 19 3 8),
 o1 10 (fdS 1 1),
 o1 11 (ldS 19 1 10),
 o1 12 (lnS 11),
 o1 13 (bnS .sub 9 12),
 o1 14 (mvS 3),
 o1 15 (bnS .quo 13 14),
 o1 16 (.mnmx false [.s 15, .k (.sc (.int .i64 65535))]),
 o1 17 (mvS 3),
 o1 18 (bnS .mul 16 17),
 o1 2 (mvS 18)]
def i50_0 : CW := .seq (.fin (.reg g50_0) [0, 2] []) (.seq (.fin (.reg g50_1) [4, 5, 6, 7] []) (.seq (.fin (.reg g50_2) [1, 3, 8, 9, 10, 11, 12, 13, 14, 15, 16, 17, 18] [(19, 15)]) (.ret)))
def fn50 : IFn2 RW := ⟨50, 1, 19, 48, [(19, 15)], [], [], [.slot 2], i50_0⟩
def g65_0 : LS := [o1 2 (.mv false (.k (.sc (.int .i64 0))))]
def g65_1 : LS := [o1 3 (mvS 0),
 o1 4 (.bin .rem (.s 3) (.k (.sc (.int .i64 4294967296)))),
 o1 0 (mvS 4)]
def g65_2 : LS := [o1 5 (mvS 0),
 o1 6 (.bin .lss (.s 5) (.k (.sc (.int .i64 0))))]
def g65_3 : LS := [o1 7 (mvS 0),
 o1 8 (.bin .add (.s 7) (.k (.sc (.int .i64 4294967296)))),
 o1 0 (mvS 8)]
def g65_4 : LS := [o1 9 (mvS 0),
 o1 2 (mvS 9)]
def i65_0 : CW := .seq (.fin (.reg g65_0) [2] []) (.seq (.fin (.reg g65_1) [3, 4] []) (.seq (.seq (.fin (.reg g65_2) [5] []) (.fin (.cond (.s 6) (.fin (.reg g65_3) [6, 7, 8] []) (.skip)) [6] [])) (.seq (.fin (.reg g65_4) [0, 9] []) (.ret))))
def fn65 : IFn2 RW := ⟨65, 1, 10, 16, [], [], [], [.slot 2], i65_0⟩
def g39_0 : LS := [o1 4 (.mv false (.k (.sc (.int .u32 0))))]
def g39_1 : LS := [o1 5 (mvS 0),
 o1 6 (.conv .i64 (.s 5)),
 o1 7 (mvS 1),
 o1 8 (.call 65 [(false, .s 7)] [] []),
 o1 9 (bnS .add 6 8),
 o1 10 (.call 65 [(false, .s 9)] [] []),
 o1 11 (.conv .u32 (.s 10)),
 o1 4 (mvS 11)]
def i39_0 : CW := .seq (.fin (.reg g39_0) [4] []) (.seq (.fin (.reg g39_1) [0, 1, 5, 6, 7, 8, 9, 10, 11] []) (.ret))
def fn39 : IFn2 RW := ⟨39, 2, 12, 16, [], [], [], [.slot 4], i39_0⟩
def g41_11 : LS := [o1 37 (mvS 9),
 o1 38 (fdS 11 2),
 o1 39 (ldS 92 11 38),
 o1 40 (lnS 39),
 o1 41 (bnS .lss 37 40),
 o2 42 (mvS 41),
 o3 43 42 true (fdS 8 2),
 o3 44 42 true (ldS 92 8 43),
 o1 45 (.pick (.s 42) (.s 44) (.k (.sc (.bool false)))),
 o2 46 (mvS 45),
 o3 47 46 true (fdS 13 7),
 o3 48 46 true (ldS 140 13 47),
 o3 49 46 true (lnS 48),
 o3 50 46 true (mvS 8),
 o3 51 46 true (bnS .lss 49 50),
 o1 52 (.pick (.s 46) (.s 51) (.k (.sc (.bool false))))]
def g41_13 : LS := [o1 55 (fdS 13 7),
 o1 56 (.load 140 13 1 false true 55),
 o1 57 (fdS 12 2),
 o1 58 (ldS 92 12 57),
 o1 59 (fdS 11 2),
 o1 60 (ldS 92 11 59),
 o1 61 (mvS 9),
 o1 62 (ixS 2 60 61),
 o1 63 (fdS 0 62),
 o1 64 (.loade 1 false 63),
 o1 65 (.call 39 [(false, .s 58), (false, .s 64)] [] []),
 o1 66 (fdS 12 2),
 o1 67 (ldS 92 12 66),
 o1 68 (fdS 11 2),
 o1 69 (ldS 92 11 68),
 o1 70 (mvS 9),
 o1 71 (ixS 2 69 70),
 o1 72 (fdS 1 71),
 o1 73 (.loade 1 false 72),
 o1 74 (.call 39 [(false, .s 67), (false, .s 73)] [] []),
 o1 75 (.build [.sc (.int .u32 0), .sc (.int .u32 0)] [(0, 1, .s 65), (1, 1, .s 74)]),
 o1 76 (.bslice 62 1 [(0, 2, .s 75)]),
 o1 77 (.app 2 8 true (.s 56) (.s 76)),
 o1 78 (fdS 13 7),
 o0 (.store 140 13 1 true 78 (.s 77))]
def g41_12 : LS := [o1 53 (mvS 9),
 o1 54 (.bin .add (.s 53) (.k (.sc (.int .i64 1)))),
 o1 9 (mvS 54)]
def i41_0 : CW := .seq (.seq (.fin (.reg g41_11) [37, 38, 39, 40, 41, 42, 43, 44, 45, 46, 47, 48, 49, 50, 51] []) (.fin (.cond (.s 52) (.skip) (.clr [8, 9, 52] [] (.exit 0))) [52] [])) (.seq (.blk 1 (.fin (.reg g41_13) [55, 56, 57, 58, 59, 60, 61, 62, 63, 64, 65, 66, 67, 68, 69, 70, 71, 72, 73, 74, 75, 76, 77, 78] [])) (.fin (.reg g41_12) [53, 54] []))
def i41_1 : CW := .loop i41_0
def i41_2 : CW := .blk 0 i41_1
def g41_10 : LS := [o1 9 (.mv false (.k (.sc (.int .i64 0))))]
def i41_3 : CW := .seq (.reg g41_10) i41_2
def g41_14 : LS := [o1 79 (.load 92 0 15 true false 2),
 o1 80 (.call 37 [(false, .s 79)] [] []),
 o1 10 (.alloc 156 [.sc (.int .i64 0), .row false (.ruint8 []), .row false (.rPiece []), .sc (.int .i64 0), .sc (.int .i64 0), .sc (.int .i64 0), .sc (.int .u32 0), .sc (.bool false), .sc (.bool false), .sc (.int .i64 0), .sc (.bool false), .row false (.rSpan []), .sc (.int .u32 0), .sc (.int .u32 0), .sc (.bool false)]),
 o0 (.store 156 0 15 false 10 (.s 80))]
def g41_15 : LS := [o1 81 (fdS 5 2),
 o1 82 (ldS 92 5 81),
 o1 83 (fdS 0 2),
 o1 84 (ldS 92 0 83),
 o1 85 (.load 92 0 15 true false 2),
 o1 86 (.call 50 [(false, .s 85)] [] []),
 o1 87 (bnS .add 84 86),
 o1 88 (.mnmx true [.s 82, .s 87]),
 o1 89 (fdS 5 10),
 o0 (.store 156 5 1 false 89 (.s 88))]
def g41_16 : LS := [o1 90 (.load 156 0 15 true false 10),
 o1 91 (.load 140 0 15 true false 7),
 o0 (.store 108 0 15 false 4 (.s 90)),
 o0 (.store 124 0 15 false 5 (.s 91))]
def i41_4 : CW := .seq (.fin (.reg g41_14) [79, 80] []) (.seq (.fin (.reg g41_15) [2, 81, 82, 83, 84, 85, 86, 87, 88, 89] [(92, 15)]) (.seq (.fin (.reg g41_16) [7, 10, 90, 91] [(140, 15), (156, 15)]) (.ret)))
def i41_5 : CW := .seq i41_3 i41_4
def g41_0 : LS := [o1 2 (.box 92 15 false (.s 0)),
 o1 4 (.alloc 108 [.sc (.int .i64 0), .row false (.ruint8 []), .row false (.rPiece []), .sc (.int .i64 0), .sc (.int .i64 0), .sc (.int .i64 0), .sc (.int .u32 0), .sc (.bool false), .sc (.bool false), .sc (.int .i64 0), .sc (.bool false), .row false (.rSpan []), .sc (.int .u32 0), .sc (.int .u32 0), .sc (.bool false)]),
 o1 5 (.alloc 124 [.sc (.int .i64 0), .sc (.int .i64 0), .sc (.int .u32 0), .sc (.int .u32 0), .sc (.int .i64 0), .sc (.int .i64 0), .sc (.int .i64 0), .sc (.int .i64 0), .sc (.int .i64 0), .sc (.bool false), .sc (.bool false), .sc (.int .u32 0), .sc (.int .u32 0), .row false (.rBlock []), .row false (.ruint8 [])])]
def g41_1 : LS := [o1 11 (fdS 0 2),
 o1 12 (ldS 92 0 11),
 o1 6 (mvS 12)]
def g41_2 : LS := [o1 13 (fdS 10 2),
 o1 14 (ldS 92 10 13)]
def g41_3 : LS := [o1 15 (mvS 6),
 o1 16 (.bin .add (.s 15) (.k (.sc (.int .i64 1)))),
 o1 6 (mvS 16)]
def g41_4 : LS := [o1 17 (fdS 13 2),
 o1 18 (ldS 92 13 17),
 o1 19 (fdS 12 2),
 o1 20 (ldS 92 12 19),
 o1 21 (mvS 6),
 o1 22 (.call 39 [(false, .s 20), (false, .s 21)] [] []),
 o1 23 (.load 92 0 15 true false 2),
 o1 24 (.call 50 [(false, .s 23)] [] []),
 o1 25 (fdS 4 2),
 o1 26 (ldS 92 4 25),
 o1 27 (.conv .u64 (.s 26)),
 o1 28 (bnS .shr 24 27),
 o1 29 (.mv true (.s 1)),
 o1 30 (.buildl [.sc (.int .i64 0), .sc (.int .i64 0), .sc (.int .u32 0), .sc (.int .u32 0), .sc (.int .i64 0), .sc (.int .i64 0), .sc (.int .i64 0), .sc (.int .i64 0), .sc (.int .i64 0), .sc (.bool false), .sc (.bool false), .sc (.int .u32 0), .sc (.int .u32 0), .row false (.rBlock []), .row false (.ruint8 [])] [(2, 1, .s 18), (3, 1, .s 22), (4, 1, .k (.sc (.int .i64 16))), (5, 1, .s 28), (7, 1, .k (.sc (.int .i64 (-1)))), (8, 1, .k (.sc (.int .i64 (-1)))), (13, 1, .s 29)] 13 29),
 o1 7 (.alloc 140 [.sc (.int .i64 0), .sc (.int .i64 0), .sc (.int .u32 0), .sc (.int .u32 0), .sc (.int .i64 0), .sc (.int .i64 0), .sc (.int .i64 0), .sc (.int .i64 0), .sc (.int .i64 0), .sc (.bool false), .sc (.bool false), .sc (.int .u32 0), .sc (.int .u32 0), .row true (.rBlock []), .row false (.ruint8 [])]),
 o0 (.store 140 0 15 true 7 (.s 30))]
def g41_5 : LS := [o1 8 (.mv false (.k (.sc (.int .i64 4))))]
def g41_6 : LS := [o1 31 (fdS 7 2),
 o1 32 (ldS 92 7 31)]
def g41_7 : LS := [o1 33 (fdS 10 7),
 o0 (.store 140 10 1 false 33 (.k (.sc (.bool true))))]
def g41_8 : LS := [o1 34 (fdS 6 2),
 o1 35 (ldS 92 6 34),
 o1 36 (fdS 12 7),
 o0 (.store 140 12 1 false 36 (.s 35))]
def g41_9 : LS := [o1 8 (.mv false (.k (.sc (.int .i64 3))))]
def i41_6 : CW := .seq (.fin (.reg g41_0) [0] []) (.seq (.fin (.reg g41_1) [11, 12] []) (.seq (.seq (.fin (.reg g41_2) [13] []) (.fin (.cond (.s 14) (.fin (.reg g41_3) [14, 15, 16] []) (.skip)) [14] [])) (.seq (.fin (.reg g41_4) [1, 6, 17, 18, 19, 20, 21, 22, 23, 24, 25, 26, 27, 28, 29, 30] []) (.seq (.reg g41_5) (.seq (.seq (.fin (.reg g41_6) [31] []) (.fin (.cond (.s 32) (.seq (.fin (.reg g41_7) [8, 32, 33] []) (.seq (.fin (.reg g41_8) [34, 35, 36] []) (.reg g41_9))) (.skip)) [32] [])) i41_5)))))
def fn41 : IFn2 RW := ⟨41, 2, 92, 176, [(92, 15), (108, 15), (124, 15), (140, 15), (156, 15)], [], [], [.cell 4 108 15 true, .cell 5 124 15 true], i41_6⟩
def g24_0 : LS := [o1 2 (.box 61 15 false (.s 0)),
 o1 4 (.alloc 77 [.sc (.int .i64 0), .row false (.ruint8 []), .row false (.rPiece []), .sc (.int .i64 0), .sc (.int .i64 0), .sc (.int .i64 0), .sc (.int .u32 0), .sc (.bool false), .sc (.bool false), .sc (.int .i64 0), .sc (.bool false), .row false (.rSpan []), .sc (.int .u32 0), .sc (.int .u32 0), .sc (.bool false)]),
 o1 5 (.mv false (.k (.row false (.ruint8 [])))),
 o1 6 (.alloc 93 [.sc (.int .i64 0), .sc (.int .i64 0), .sc (.int .u32 0), .sc (.int .u32 0), .sc (.int .i64 0), .sc (.int .i64 0), .sc (.int .i64 0), .sc (.int .i64 0), .sc (.int .i64 0), .sc (.bool false), .sc (.bool false), .sc (.int .u32 0), .sc (.int .u32 0), .row false (.rBlock []), .row false (.ruint8 [])]),
 o1 7 (.mv false (.k (.sc (.bool false)))),
 o1 8 (.mv false (.k (.sc (.int .i64 0))))]
def g24_1 : LS := [o1 13 (.load 61 0 15 true false 2),
 o1 14 (.call 16 [(false, .s 13)] [] []),
 o1 15 (.bin .neq (.s 14) (.k (.sc (.int .i64 0))))]
def g24_2 : LS := [o1 16 (.build [.sc (.int .i64 0), .row false (.ruint8 []), .row false (.rPiece []), .sc (.int .i64 0), .sc (.int .i64 0), .sc (.int .i64 0), .sc (.int .u32 0), .sc (.bool false), .sc (.bool false), .sc (.int .i64 0), .sc (.bool false), .row false (.rSpan []), .sc (.int .u32 0), .sc (.int .u32 0), .sc (.bool false)] []),
 o1 17 (.build [.sc (.int .i64 0), .sc (.int .i64 0), .sc (.int .u32 0), .sc (.int .u32 0), .sc (.int .i64 0), .sc (.int .i64 0), .sc (.int .i64 0), .sc (.int .i64 0), .sc (.int .i64 0), .sc (.bool false), .sc (.bool false), .sc (.int .u32 0), .sc (.int .u32 0), .row false (.rBlock []), .row false (.ruint8 [])] []),
 o0 (.store 77 0 15 false 4 (.s 16)),
 o1 5 (.mv false (.k (.row false (.ruint8 [])))),
 o0 (.store 93 0 15 false 6 (.s 17)),
 o1 7 (.mv false (.k (.sc (.bool false)))),
 o1 8 (.mv false (.k (.sc (.int .i64 230))))]
def g24_3 : LS := [o1 18 (.load 61 0 15 true false 2),
 o1 19 (.call 37 [(false, .s 18)] [] []),
 o0 (.store 61 0 15 false 2 (.s 19))]
def g24_4 : LS := [o1 20 (mvS 1),
 o1 21 (.mnmx true [.s 20, .k (.sc (.int .i64 0))]),
 o1 22 (fdS 1 2),
 o1 23 (ldS 61 1 22),
 o1 24 (lnS 23),
 o1 25 (.mnmx false [.s 21, .s 24]),
 o1 9 (mvS 25)]
def g24_5 : LS := [o1 26 (.bslice 5 0 []),
 o1 27 (fdS 1 2),
 o1 28 (ldS 61 1 27),
 o1 29 (mvS 9),
 o1 30 (.slice 1 (.s 28) none (some (.s 29)) none),
 o1 31 (.app 1 1 true (.s 26) (.s 30)),
 o1 10 (mvS 31)]
def g24_6 : LS := [o1 32 (fdS 1 2),
 o1 33 (ldS 61 1 32),
 o1 34 (mvS 9),
 o1 35 (.slice 1 (.s 33) (some (.s 34)) none none),
 o1 36 (fdS 1 2),
 o0 (.store 61 1 1 false 36 (.s 35))]
def g24_7 : LS := [o1 37 (fdS 0 2),
 o1 38 (ldS 61 0 37),
 o1 39 (.load 61 0 15 true false 2),
 o1 40 (.call 50 [(false, .s 39)] [] []),
 o1 41 (bnS .add 38 40),
 o1 42 (fdS 5 2),
 o1 43 (ldS 61 5 42),
 o1 44 (bnS .sub 41 43),
 o1 45 (fdS 3 2),
 o1 46 (ldS 61 3 45),
 o1 47 (.bin .quo (.s 46) (.k (.sc (.int .i64 2)))),
 o1 48 (.mnmx true [.s 47, .k (.sc (.int .i64 1))]),
 o1 49 (bnS .geq 44 48)]
def g24_8 : LS := [o1 51 (.load 61 0 15 true false 2),
 o1 52 (.call 41 [(false, .s 51), (true, .k (.row true (.rBlock [])))] [] []),
 o1 50 (mvS 52),
 o1 53 (.ext false 0 (.s 50)),
 o1 54 (.ext false 1 (.s 50)),
 o1 11 (.alloc 109 [.sc (.int .i64 0), .row false (.ruint8 []), .row false (.rPiece []), .sc (.int .i64 0), .sc (.int .i64 0), .sc (.int .i64 0), .sc (.int .u32 0), .sc (.bool false), .sc (.bool false), .sc (.int .i64 0), .sc (.bool false), .row false (.rSpan []), .sc (.int .u32 0), .sc (.int .u32 0), .sc (.bool false)]),
 o1 12 (.alloc 125 [.sc (.int .i64 0), .sc (.int .i64 0), .sc (.int .u32 0), .sc (.int .u32 0), .sc (.int .i64 0), .sc (.int .i64 0), .sc (.int .i64 0), .sc (.int .i64 0), .sc (.int .i64 0), .sc (.bool false), .sc (.bool false), .sc (.int .u32 0), .sc (.int .u32 0), .row false (.rBlock []), .row false (.ruint8 [])]),
 o0 (.store 109 0 15 false 11 (.s 53)),
 o0 (.store 125 0 15 false 12 (.s 54))]
def g24_9 : LS := [o1 55 (.load 109 0 15 true false 11),
 o1 56 (mvS 10),
 o1 57 (.load 125 0 15 true false 12),
 o0 (.store 77 0 15 false 4 (.s 55)),
 o1 5 (mvS 56),
 o0 (.store 93 0 15 false 6 (.s 57)),
 o1 7 (.mv false (.k (.sc (.bool true)))),
 o1 8 (.mv false (.k (.sc (.int .i64 0))))]
def g24_10 : LS := [o1 58 (.load 61 0 15 true false 2),
 o1 59 (mvS 10),
 o1 60 (.build [.sc (.int .i64 0), .sc (.int .i64 0), .sc (.int .u32 0), .sc (.int .u32 0), .sc (.int .i64 0), .sc (.int .i64 0), .sc (.int .i64 0), .sc (.int .i64 0), .sc (.int .i64 0), .sc (.bool false), .sc (.bool false), .sc (.int .u32 0), .sc (.int .u32 0), .row false (.rBlock []), .row false (.ruint8 [])] []),
 o0 (.store 77 0 15 false 4 (.s 58)),
 o1 5 (mvS 59),
 o0 (.store 93 0 15 false 6 (.s 60)),
 o1 7 (.mv false (.k (.sc (.bool false)))),
 o1 8 (.mv false (.k (.sc (.int .i64 0))))]
def i24_0 : CW := .seq (.fin (.reg g24_0) [0, 5, 7, 8] []) (.seq (.seq (.fin (.reg g24_1) [13, 14] []) (.fin (.cond (.s 15) (.seq (.fin (.reg g24_2) [1, 2, 15, 16, 17] [(61, 15)]) (.ret)) (.skip)) [15] [])) (.seq (.fin (.reg g24_3) [18, 19] []) (.seq (.fin (.reg g24_4) [1, 20, 21, 22, 23, 24, 25] []) (.seq (.fin (.reg g24_5) [26, 27, 28, 29, 30, 31] []) (.seq (.fin (.reg g24_6) [9, 32, 33, 34, 35, 36] []) (.seq (.seq (.fin (.reg g24_7) [37, 38, 39, 40, 41, 42, 43, 44, 45, 46, 47, 48] []) (.fin (.cond (.s 49) (.seq (.fin (.reg g24_8) [2, 49, 50, 51, 52, 53, 54] [(61, 15)]) (.seq (.fin (.reg g24_9) [10, 11, 12, 55, 56, 57] [(109, 15), (125, 15)]) (.ret))) (.skip)) [49] [])) (.seq (.fin (.reg g24_10) [2, 10, 58, 59, 60] [(61, 15)]) (.ret))))))))
def fn24 : IFn2 RW := ⟨24, 2, 61, 144, [(61, 15), (77, 15), (93, 15), (109, 15), (125, 15)], [], [], [.cell 4 77 15 true, .slot 5, .cell 6 93 15 true, .slot 7, .slot 8], i24_0⟩
def g23_0 : LS := [o1 1 (.box 14 15 false (.s 0)),
 o1 2 (.alloc 30 [.sc (.int .i64 0), .row false (.ruint8 []), .row false (.rPiece []), .sc (.int .i64 0), .sc (.int .i64 0), .sc (.int .i64 0), .sc (.int .u32 0), .sc (.bool false), .sc (.bool false), .sc (.int .i64 0), .sc (.bool false), .row false (.rSpan []), .sc (.int .u32 0), .sc (.int .u32 0), .sc (.bool false)]),
 o1 3 (.alloc 46 [.sc (.int .i64 0), .sc (.int .i64 0), .sc (.int .u32 0), .sc (.int .u32 0), .sc (.int .i64 0), .sc (.int .i64 0), .sc (.int .i64 0), .sc (.int .i64 0), .sc (.int .i64 0), .sc (.bool false), .sc (.bool false), .sc (.int .u32 0), .sc (.int .u32 0), .row false (.rBlock []), .row false (.ruint8 [])])]
def g23_1 : LS := [o1 4 (.load 14 0 15 true false 1),
 o1 5 (.call 10 [(false, .s 4)] [] []),
 o1 6 (.bin .neq (.s 5) (.k (.sc (.int .i64 0))))]
def g23_2 : LS := [o1 7 (.build [.sc (.int .i64 0), .row false (.ruint8 []), .row false (.rPiece []), .sc (.int .i64 0), .sc (.int .i64 0), .sc (.int .i64 0), .sc (.int .u32 0), .sc (.bool false), .sc (.bool false), .sc (.int .i64 0), .sc (.bool false), .row false (.rSpan []), .sc (.int .u32 0), .sc (.int .u32 0), .sc (.bool false)] []),
 o1 8 (.build [.sc (.int .i64 0), .sc (.int .i64 0), .sc (.int .u32 0), .sc (.int .u32 0), .sc (.int .i64 0), .sc (.int .i64 0), .sc (.int .i64 0), .sc (.int .i64 0), .sc (.int .i64 0), .sc (.bool false), .sc (.bool false), .sc (.int .u32 0), .sc (.int .u32 0), .row false (.rBlock []), .row false (.ruint8 [])] []),
 o0 (.store 30 0 15 false 2 (.s 7)),
 o0 (.store 46 0 15 false 3 (.s 8))]
def g23_3 : LS := [o1 9 (.load 14 0 15 true false 1),
 o1 10 (.call 29 [(false, .s 9)] [] []),
 o1 11 (.call 32 [(false, .s 10), (true, .k (.row true (.rBlock [])))] [] []),
 o1 12 (.ext false 0 (.s 11)),
 o1 13 (.ext false 1 (.s 11)),
 o0 (.store 30 0 15 false 2 (.s 12)),
 o0 (.store 46 0 15 false 3 (.s 13))]
def i23_0 : CW := .seq (.fin (.reg g23_0) [0] []) (.seq (.seq (.fin (.reg g23_1) [4, 5] []) (.fin (.cond (.s 6) (.seq (.fin (.reg g23_2) [1, 6, 7, 8] [(14, 15)]) (.wk [] (.ret))) (.skip)) [6] [])) (.seq (.fin (.reg g23_3) [1, 9, 10, 11, 12, 13] [(14, 15)]) (.wk [] (.ret))))
def fn23 : IFn2 RW := ⟨23, 1, 14, 64, [(14, 15), (30, 15), (46, 15)], [], [], [.cell 2 30 15 true, .cell 3 46 15 true], i23_0⟩
def g25_0 : LS := [o1 1 (.box 13 15 false (.s 0)),
 o1 2 (.alloc 29 [.sc (.int .i64 0), .row false (.ruint8 []), .row false (.rPiece []), .sc (.int .i64 0), .sc (.int .i64 0), .sc (.int .i64 0), .sc (.int .u32 0), .sc (.bool false), .sc (.bool false), .sc (.int .i64 0), .sc (.bool false), .row false (.rSpan []), .sc (.int .u32 0), .sc (.int .u32 0), .sc (.bool false)]),
 o1 3 (.alloc 45 [.sc (.int .i64 0), .sc (.int .i64 0), .sc (.int .u32 0), .sc (.int .u32 0), .sc (.int .i64 0), .sc (.int .i64 0), .sc (.int .i64 0), .sc (.int .i64 0), .sc (.int .i64 0), .sc (.bool false), .sc (.bool false), .sc (.int .u32 0), .sc (.int .u32 0), .row false (.rBlock []), .row false (.ruint8 [])])]
def g25_1 : LS := [o1 4 (.load 13 0 15 true false 1),
 o1 5 (.call 16 [(false, .s 4)] [] []),
 o1 6 (.bin .neq (.s 5) (.k (.sc (.int .i64 0))))]
def g25_2 : LS := [o1 7 (.build [.sc (.int .i64 0), .row false (.ruint8 []), .row false (.rPiece []), .sc (.int .i64 0), .sc (.int .i64 0), .sc (.int .i64 0), .sc (.int .u32 0), .sc (.bool false), .sc (.bool false), .sc (.int .i64 0), .sc (.bool false), .row false (.rSpan []), .sc (.int .u32 0), .sc (.int .u32 0), .sc (.bool false)] []),
 o1 8 (.build [.sc (.int .i64 0), .sc (.int .i64 0), .sc (.int .u32 0), .sc (.int .u32 0), .sc (.int .i64 0), .sc (.int .i64 0), .sc (.int .i64 0), .sc (.int .i64 0), .sc (.int .i64 0), .sc (.bool false), .sc (.bool false), .sc (.int .u32 0), .sc (.int .u32 0), .row false (.rBlock []), .row false (.ruint8 [])] []),
 o0 (.store 29 0 15 false 2 (.s 7)),
 o0 (.store 45 0 15 false 3 (.s 8))]
def g25_3 : LS := [o1 9 (.load 13 0 15 true false 1),
 o1 10 (.call 41 [(false, .s 9), (true, .k (.row true (.rBlock [])))] [] []),
 o1 11 (.ext false 0 (.s 10)),
 o1 12 (.ext false 1 (.s 10)),
 o0 (.store 29 0 15 false 2 (.s 11)),
 o0 (.store 45 0 15 false 3 (.s 12))]
def i25_0 : CW := .seq (.fin (.reg g25_0) [0] []) (.seq (.seq (.fin (.reg g25_1) [4, 5] []) (.fin (.cond (.s 6) (.seq (.fin (.reg g25_2) [1, 6, 7, 8] [(13, 15)]) (.ret)) (.skip)) [6] [])) (.seq (.fin (.reg g25_3) [1, 9, 10, 11, 12] [(13, 15)]) (.ret)))
def fn25 : IFn2 RW := ⟨25, 1, 13, 64, [(13, 15), (29, 15), (45, 15)], [], [], [.cell 2 29 15 true, .cell 3 45 15 true], i25_0⟩
def g21_0 : LS := [o1 4 (.mv false (.k (.sc (.bool false))))]
def g21_1 : LS := [o1 5 (mvS 0),
 o1 6 (.cstr (.s 5)),
 o1 7 (mvS 1),
 o1 8 (.cstr (.s 7)),
 o1 9 (.eqt false (.s 6) (.s 8)),
 o1 4 (mvS 9)]
def i21_0 : CW := .seq (.fin (.reg g21_0) [4] []) (.seq (.fin (.reg g21_1) [0, 1, 5, 6, 7, 8, 9] []) (.ret))
def fn21 : IFn2 RW := ⟨21, 2, 10, 16, [], [], [], [.slot 4], i21_0⟩
def g14_6 : LS := [o1 113 (mvS 5),
 o1 114 (fdS 2 2),
 o1 115 (ldS 167 2 114),
 o1 116 (lnS 115),
 o1 117 (bnS .lss 113 116)]
def g14_8 : LS := [o1 120 (fdS 2 2),
 o1 121 (ldS 167 2 120),
 o1 122 (mvS 5),
 o1 123 (ixS 2 121 122),
 o1 124 (fdS 0 123),
 o1 125 (.loade 1 false 124),
 o1 126 (fdS 2 3),
 o1 127 (ldS 183 2 126),
 o1 128 (mvS 5),
 o1 129 (ixS 2 127 128),
 o1 130 (fdS 0 129),
 o1 131 (.loade 1 false 130),
 o1 132 (bnS .neq 125 131),
 o2 133 (mvS 132),
 o3 134 133 false (fdS 2 2),
 o3 135 133 false (ldS 167 2 134),
 o3 136 133 false (mvS 5),
 o3 137 133 false (ixS 2 135 136),
 o3 138 133 false (fdS 1 137),
 o3 139 133 false (.loade 1 false 138),
 o3 140 133 false (fdS 2 3),
 o3 141 133 false (ldS 183 2 140),
 o3 142 133 false (mvS 5),
 o3 143 133 false (ixS 2 141 142),
 o3 144 133 false (fdS 1 143),
 o3 145 133 false (.loade 1 false 144),
 o3 146 133 false (.call 21 [(false, .s 139), (false, .s 145)] [] []),
 o3 147 133 false (ntS 146),
 o1 148 (.pick (.s 133) (.k (.sc (.bool true))) (.s 147))]
def g14_9 : LS := [o1 4 (.mv false (.k (.sc (.bool false))))]
def g14_7 : LS := [o1 118 (mvS 5),
 o1 119 (.bin .add (.s 118) (.k (.sc (.int .i64 1)))),
 o1 5 (mvS 119)]
def i14_0 : CW := .seq (.seq (.fin (.reg g14_6) [113, 114, 115, 116] []) (.fin (.cond (.s 117) (.skip) (.clr [5, 117] [] (.exit 0))) [117] [])) (.seq (.blk 1 (.seq (.fin (.reg g14_8) [120, 121, 122, 123, 124, 125, 126, 127, 128, 129, 130, 131, 132, 133, 134, 135, 136, 137, 138, 139, 140, 141, 142, 143, 144, 145, 146, 147] []) (.fin (.cond (.s 148) (.seq (.fin (.reg g14_9) [2, 3, 5, 148] [(167, 15), (183, 15)]) (.ret)) (.skip)) [148] []))) (.fin (.reg g14_7) [118, 119] []))
def i14_1 : CW := .loop i14_0
def i14_2 : CW := .blk 0 i14_1
def g14_5 : LS := [o1 5 (.mv false (.k (.sc (.int .i64 0))))]
def i14_3 : CW := .seq (.reg g14_5) i14_2
def g14_11 : LS := [o1 149 (mvS 6),
 o1 150 (fdS 11 2),
 o1 151 (ldS 167 11 150),
 o1 152 (lnS 151),
 o1 153 (bnS .lss 149 152)]
def g14_13 : LS := [o1 156 (fdS 11 2),
 o1 157 (ldS 167 11 156),
 o1 158 (mvS 6),
 o1 159 (ixS 2 157 158),
 o1 160 (.loade 2 true 159),
 o1 161 (fdS 11 3),
 o1 162 (ldS 183 11 161),
 o1 163 (mvS 6),
 o1 164 (ixS 2 162 163),
 o1 165 (.loade 2 true 164),
 o1 166 (.eqs [true, true] true (.s 160) (.s 165))]
def g14_14 : LS := [o1 4 (.mv false (.k (.sc (.bool false))))]
def g14_12 : LS := [o1 154 (mvS 6),
 o1 155 (.bin .add (.s 154) (.k (.sc (.int .i64 1)))),
 o1 6 (mvS 155)]
def i14_4 : CW := .seq (.seq (.fin (.reg g14_11) [149, 150, 151, 152] []) (.fin (.cond (.s 153) (.skip) (.clr [2, 3, 6, 153] [(167, 15), (183, 15)] (.exit 2))) [153] [])) (.seq (.blk 3 (.seq (.fin (.reg g14_13) [156, 157, 158, 159, 160, 161, 162, 163, 164, 165] []) (.fin (.cond (.s 166) (.seq (.fin (.reg g14_14) [2, 3, 6, 166] [(167, 15), (183, 15)]) (.ret)) (.skip)) [166] []))) (.fin (.reg g14_12) [154, 155] []))
def i14_5 : CW := .loop i14_4
def i14_6 : CW := .blk 2 i14_5
def g14_10 : LS := [o1 6 (.mv false (.k (.sc (.int .i64 0))))]
def i14_7 : CW := .seq (.reg g14_10) i14_6
def g14_15 : LS := [o1 4 (.mv false (.k (.sc (.bool true))))]
def i14_8 : CW := .seq (.reg g14_15) (.ret)
def i14_9 : CW := .seq i14_7 i14_8
def i14_10 : CW := .seq i14_3 i14_9
def g14_0 : LS := [o1 2 (.box 167 15 false (.s 0)),
 o1 3 (.box 183 15 false (.s 1)),
 o1 4 (.mv false (.k (.sc (.bool false))))]
def g14_1 : LS := [o1 7 (fdS 0 2),
 o1 8 (ldS 167 0 7),
 o1 9 (fdS 0 3),
 o1 10 (ldS 183 0 9),
 o1 11 (bnS .neq 8 10),
 o2 12 (mvS 11),
 o3 13 12 false (fdS 3 2),
 o3 14 12 false (ldS 167 3 13),
 o3 15 12 false (fdS 3 3),
 o3 16 12 false (ldS 183 3 15),
 o3 17 12 false (bnS .neq 14 16),
 o1 18 (.pick (.s 12) (.k (.sc (.bool true))) (.s 17)),
 o2 19 (mvS 18),
 o3 20 19 false (fdS 4 2),
 o3 21 19 false (ldS 167 4 20),
 o3 22 19 false (fdS 4 3),
 o3 23 19 false (ldS 183 4 22),
 o3 24 19 false (bnS .neq 21 23),
 o1 25 (.pick (.s 19) (.k (.sc (.bool true))) (.s 24)),
 o2 26 (mvS 25),
 o3 27 26 false (fdS 5 2),
 o3 28 26 false (ldS 167 5 27),
 o3 29 26 false (fdS 5 3),
 o3 30 26 false (ldS 183 5 29),
 o3 31 26 false (bnS .neq 28 30),
 o1 32 (.pick (.s 26) (.k (.sc (.bool true))) (.s 31)),
 o2 33 (mvS 32),
 o3 34 33 false (fdS 6 2),
 o3 35 33 false (ldS 167 6 34),
 o3 36 33 false (fdS 6 3),
 o3 37 33 false (ldS 183 6 36),
 o3 38 33 false (bnS .neq 35 37),
 o1 39 (.pick (.s 33) (.k (.sc (.bool true))) (.s 38)),
 o2 40 (mvS 39),
 o3 41 40 false (fdS 7 2),
 o3 42 40 false (ldS 167 7 41),
 o3 43 40 false (fdS 7 3),
 o3 44 40 false (ldS 183 7 43),
 o3 45 40 false (.eqb true (.s 42) (.s 44)),
 o1 46 (.pick (.s 40) (.k (.sc (.bool true))) (.s 45)),
 o2 47 (mvS 46),
 o3 48 47 false (fdS 8 2),
 o3 49 47 false (ldS 167 8 48),
 o3 50 47 false (fdS 8 3),
 o3 51 47 false (ldS 183 8 50),
 o3 52 47 false (.eqb true (.s 49) (.s 51)),
 o1 53 (.pick (.s 47) (.k (.sc (.bool true))) (.s 52)),
 o2 54 (mvS 53),
 o3 55 54 false (fdS 9 2),
 o3 56 54 false (ldS 167 9 55),
 o3 57 54 false (fdS 9 3),
 o3 58 54 false (ldS 183 9 57),
 o3 59 54 false (bnS .neq 56 58),
 o1 60 (.pick (.s 54) (.k (.sc (.bool true))) (.s 59)),
 o2 61 (mvS 60),
 o3 62 61 false (fdS 10 2),
 o3 63 61 false (ldS 167 10 62),
 o3 64 61 false (fdS 10 3),
 o3 65 61 false (ldS 183 10 64),
 o3 66 61 false (.eqb true (.s 63) (.s 65)),
 o1 67 (.pick (.s 61) (.k (.sc (.bool true))) (.s 66))]
def g14_2 : LS := [o1 4 (.mv false (.k (.sc (.bool false))))]
def g14_3 : LS := [o1 68 (fdS 12 2),
 o1 69 (ldS 167 12 68),
 o1 70 (fdS 12 3),
 o1 71 (ldS 183 12 70),
 o1 72 (bnS .neq 69 71),
 o2 73 (mvS 72),
 o3 74 73 false (fdS 13 2),
 o3 75 73 false (ldS 167 13 74),
 o3 76 73 false (fdS 13 3),
 o3 77 73 false (ldS 183 13 76),
 o3 78 73 false (bnS .neq 75 77),
 o1 79 (.pick (.s 73) (.k (.sc (.bool true))) (.s 78)),
 o2 80 (mvS 79),
 o3 81 80 false (fdS 14 2),
 o3 82 80 false (ldS 167 14 81),
 o3 83 80 false (fdS 14 3),
 o3 84 80 false (ldS 183 14 83),
 o3 85 80 false (.eqb true (.s 82) (.s 84)),
 o1 86 (.pick (.s 80) (.k (.sc (.bool true))) (.s 85)),
 o2 87 (mvS 86),
 o3 88 87 false (fdS 1 2),
 o3 89 87 false (ldS 167 1 88),
 o3 90 87 false (fdS 1 3),
 o3 91 87 false (ldS 183 1 90),
 o3 92 87 false (.call 21 [(false, .s 89), (false, .s 91)] [] []),
 o3 93 87 false (ntS 92),
 o1 94 (.pick (.s 87) (.k (.sc (.bool true))) (.s 93)),
 o2 95 (mvS 94),
 o3 96 95 false (fdS 2 2),
 o3 97 95 false (ldS 167 2 96),
 o3 98 95 false (lnS 97),
 o3 99 95 false (fdS 2 3),
 o3 100 95 false (ldS 183 2 99),
 o3 101 95 false (lnS 100),
 o3 102 95 false (bnS .neq 98 101),
 o1 103 (.pick (.s 95) (.k (.sc (.bool true))) (.s 102)),
 o2 104 (mvS 103),
 o3 105 104 false (fdS 11 2),
 o3 106 104 false (ldS 167 11 105),
 o3 107 104 false (lnS 106),
 o3 108 104 false (fdS 11 3),
 o3 109 104 false (ldS 183 11 108),
 o3 110 104 false (lnS 109),
 o3 111 104 false (bnS .neq 107 110),
 o1 112 (.pick (.s 104) (.k (.sc (.bool true))) (.s 111))]
def g14_4 : LS := [o1 4 (.mv false (.k (.sc (.bool false))))]
def i14_11 : CW := .seq (.fin (.reg g14_0) [0, 1, 4] []) (.seq (.seq (.fin (.reg g14_1) [7, 8, 9, 10, 11, 12, 13, 14, 15, 16, 17, 18, 19, 20, 21, 22, 23, 24, 25, 26, 27, 28, 29, 30, 31, 32, 33, 34, 35, 36, 37, 38, 39, 40, 41, 42, 43, 44, 45, 46, 47, 48, 49, 50, 51, 52, 53, 54, 55, 56, 57, 58, 59, 60, 61, 62, 63, 64, 65, 66] []) (.fin (.cond (.s 67) (.seq (.fin (.reg g14_2) [2, 3, 67] [(167, 15), (183, 15)]) (.ret)) (.skip)) [67] [])) (.seq (.seq (.fin (.reg g14_3) [68, 69, 70, 71, 72, 73, 74, 75, 76, 77, 78, 79, 80, 81, 82, 83, 84, 85, 86, 87, 88, 89, 90, 91, 92, 93, 94, 95, 96, 97, 98, 99, 100, 101, 102, 103, 104, 105, 106, 107, 108, 109, 110, 111] []) (.fin (.cond (.s 112) (.seq (.fin (.reg g14_4) [2, 3, 112] [(167, 15), (183, 15)]) (.ret)) (.skip)) [112] [])) i14_10))
def fn14 : IFn2 RW := ⟨14, 2, 167, 208, [(167, 15), (183, 15)], [], [], [.slot 4], i14_11⟩
def g45_6 : LS := [o1 102 (mvS 5),
 o1 103 (fdS 13 2),
 o1 104 (ldS 125 13 103),
 o1 105 (lnS 104),
 o1 106 (bnS .lss 102 105)]
def g45_8 : LS := [o1 109 (fdS 13 2),
 o1 110 (ldS 125 13 109),
 o1 111 (mvS 5),
 o1 112 (ixS 2 110 111),
 o1 113 (.loade 2 true 112),
 o1 114 (fdS 13 3),
 o1 115 (ldS 141 13 114),
 o1 116 (mvS 5),
 o1 117 (ixS 2 115 116),
 o1 118 (.loade 2 true 117),
 o1 119 (.eqs [true, true] true (.s 113) (.s 118))]
def g45_9 : LS := [o1 4 (.mv false (.k (.sc (.bool false))))]
def g45_7 : LS := [o1 107 (mvS 5),
 o1 108 (.bin .add (.s 107) (.k (.sc (.int .i64 1)))),
 o1 5 (mvS 108)]
def i45_0 : CW := .seq (.seq (.fin (.reg g45_6) [102, 103, 104, 105] []) (.fin (.cond (.s 106) (.skip) (.clr [5, 106] [] (.exit 0))) [106] [])) (.seq (.blk 1 (.seq (.fin (.reg g45_8) [109, 110, 111, 112, 113, 114, 115, 116, 117, 118] []) (.fin (.cond (.s 119) (.seq (.fin (.reg g45_9) [2, 3, 5, 119] [(125, 15), (141, 15)]) (.ret)) (.skip)) [119] []))) (.fin (.reg g45_7) [107, 108] []))
def i45_1 : CW := .loop i45_0
def i45_2 : CW := .blk 0 i45_1
def g45_5 : LS := [o1 5 (.mv false (.k (.sc (.int .i64 0))))]
def i45_3 : CW := .seq (.reg g45_5) i45_2
def g45_10 : LS := [o1 120 (fdS 14 2),
 o1 121 (ldS 125 14 120),
 o1 122 (fdS 14 3),
 o1 123 (ldS 141 14 122),
 o1 124 (.call 21 [(false, .s 121), (false, .s 123)] [] []),
 o1 4 (mvS 124)]
def i45_4 : CW := .seq (.fin (.reg g45_10) [2, 3, 120, 121, 122, 123, 124] [(125, 15), (141, 15)]) (.ret)
def i45_5 : CW := .seq i45_3 i45_4
def g45_0 : LS := [o1 2 (.box 125 15 false (.s 0)),
 o1 3 (.box 141 15 false (.s 1)),
 o1 4 (.mv false (.k (.sc (.bool false))))]
def g45_1 : LS := [o1 6 (fdS 0 2),
 o1 7 (ldS 125 0 6),
 o1 8 (fdS 0 3),
 o1 9 (ldS 141 0 8),
 o1 10 (bnS .neq 7 9),
 o2 11 (mvS 10),
 o3 12 11 false (fdS 1 2),
 o3 13 11 false (ldS 125 1 12),
 o3 14 11 false (fdS 1 3),
 o3 15 11 false (ldS 141 1 14),
 o3 16 11 false (bnS .neq 13 15),
 o1 17 (.pick (.s 11) (.k (.sc (.bool true))) (.s 16)),
 o2 18 (mvS 17),
 o3 19 18 false (fdS 2 2),
 o3 20 18 false (ldS 125 2 19),
 o3 21 18 false (fdS 2 3),
 o3 22 18 false (ldS 141 2 21),
 o3 23 18 false (bnS .neq 20 22),
 o1 24 (.pick (.s 18) (.k (.sc (.bool true))) (.s 23)),
 o2 25 (mvS 24),
 o3 26 25 false (fdS 3 2),
 o3 27 25 false (ldS 125 3 26),
 o3 28 25 false (fdS 3 3),
 o3 29 25 false (ldS 141 3 28),
 o3 30 25 false (bnS .neq 27 29),
 o1 31 (.pick (.s 25) (.k (.sc (.bool true))) (.s 30)),
 o2 32 (mvS 31),
 o3 33 32 false (fdS 4 2),
 o3 34 32 false (ldS 125 4 33),
 o3 35 32 false (fdS 4 3),
 o3 36 32 false (ldS 141 4 35),
 o3 37 32 false (bnS .neq 34 36),
 o1 38 (.pick (.s 32) (.k (.sc (.bool true))) (.s 37)),
 o2 39 (mvS 38),
 o3 40 39 false (fdS 5 2),
 o3 41 39 false (ldS 125 5 40),
 o3 42 39 false (fdS 5 3),
 o3 43 39 false (ldS 141 5 42),
 o3 44 39 false (bnS .neq 41 43),
 o1 45 (.pick (.s 39) (.k (.sc (.bool true))) (.s 44)),
 o2 46 (mvS 45),
 o3 47 46 false (fdS 6 2),
 o3 48 46 false (ldS 125 6 47),
 o3 49 46 false (fdS 6 3),
 o3 50 46 false (ldS 141 6 49),
 o3 51 46 false (bnS .neq 48 50),
 o1 52 (.pick (.s 46) (.k (.sc (.bool true))) (.s 51))]
def g45_2 : LS := [o1 4 (.mv false (.k (.sc (.bool false))))]
def g45_3 : LS := [o1 53 (fdS 7 2),
 o1 54 (ldS 125 7 53),
 o1 55 (fdS 7 3),
 o1 56 (ldS 141 7 55),
 o1 57 (bnS .neq 54 56),
 o2 58 (mvS 57),
 o3 59 58 false (fdS 8 2),
 o3 60 58 false (ldS 125 8 59),
 o3 61 58 false (fdS 8 3),
 o3 62 58 false (ldS 141 8 61),
 o3 63 58 false (bnS .neq 60 62),
 o1 64 (.pick (.s 58) (.k (.sc (.bool true))) (.s 63)),
 o2 65 (mvS 64),
 o3 66 65 false (fdS 9 2),
 o3 67 65 false (ldS 125 9 66),
 o3 68 65 false (fdS 9 3),
 o3 69 65 false (ldS 141 9 68),
 o3 70 65 false (.eqb true (.s 67) (.s 69)),
 o1 71 (.pick (.s 65) (.k (.sc (.bool true))) (.s 70)),
 o2 72 (mvS 71),
 o3 73 72 false (fdS 10 2),
 o3 74 72 false (ldS 125 10 73),
 o3 75 72 false (fdS 10 3),
 o3 76 72 false (ldS 141 10 75),
 o3 77 72 false (.eqb true (.s 74) (.s 76)),
 o1 78 (.pick (.s 72) (.k (.sc (.bool true))) (.s 77)),
 o2 79 (mvS 78),
 o3 80 79 false (fdS 11 2),
 o3 81 79 false (ldS 125 11 80),
 o3 82 79 false (fdS 11 3),
 o3 83 79 false (ldS 141 11 82),
 o3 84 79 false (bnS .neq 81 83),
 o1 85 (.pick (.s 79) (.k (.sc (.bool true))) (.s 84)),
 o2 86 (mvS 85),
 o3 87 86 false (fdS 12 2),
 o3 88 86 false (ldS 125 12 87),
 o3 89 86 false (fdS 12 3),
 o3 90 86 false (ldS 141 12 89),
 o3 91 86 false (bnS .neq 88 90),
 o1 92 (.pick (.s 86) (.k (.sc (.bool true))) (.s 91)),
 o2 93 (mvS 92),
 o3 94 93 false (fdS 13 2),
 o3 95 93 false (ldS 125 13 94),
 o3 96 93 false (lnS 95),
 o3 97 93 false (fdS 13 3),
 o3 98 93 false (ldS 141 13 97),
 o3 99 93 false (lnS 98),
 o3 100 93 false (bnS .neq 96 99),
 o1 101 (.pick (.s 93) (.k (.sc (.bool true))) (.s 100))]
def g45_4 : LS := [o1 4 (.mv false (.k (.sc (.bool false))))]
def i45_6 : CW := .seq (.fin (.reg g45_0) [0, 1, 4] []) (.seq (.seq (.fin (.reg g45_1) [6, 7, 8, 9, 10, 11, 12, 13, 14, 15, 16, 17, 18, 19, 20, 21, 22, 23, 24, 25, 26, 27, 28, 29, 30, 31, 32, 33, 34, 35, 36, 37, 38, 39, 40, 41, 42, 43, 44, 45, 46, 47, 48, 49, 50, 51] []) (.fin (.cond (.s 52) (.seq (.fin (.reg g45_2) [2, 3, 52] [(125, 15), (141, 15)]) (.ret)) (.skip)) [52] [])) (.seq (.seq (.fin (.reg g45_3) [53, 54, 55, 56, 57, 58, 59, 60, 61, 62, 63, 64, 65, 66, 67, 68, 69, 70, 71, 72, 73, 74, 75, 76, 77, 78, 79, 80, 81, 82, 83, 84, 85, 86, 87, 88, 89, 90, 91, 92, 93, 94, 95, 96, 97, 98, 99, 100] []) (.fin (.cond (.s 101) (.seq (.fin (.reg g45_4) [2, 3, 101] [(125, 15), (141, 15)]) (.ret)) (.skip)) [101] [])) i45_5))
def fn45 : IFn2 RW := ⟨45, 2, 125, 160, [(125, 15), (141, 15)], [], [], [.slot 4], i45_6⟩
def g15_0 : LS := [o1 2 (.box 8 15 false (.s 0)),
 o1 3 (.box 24 15 false (.s 1)),
 o1 4 (.mv false (.k (.sc (.bool false))))]
def g15_1 : LS := [o1 5 (.load 8 0 15 true false 2),
 o1 6 (.load 24 0 15 true false 3),
 o1 7 (.call 45 [(false, .s 5), (false, .s 6)] [] []),
 o1 4 (mvS 7)]
def i15_0 : CW := .seq (.fin (.reg g15_0) [0, 1, 4] []) (.seq (.fin (.reg g15_1) [2, 3, 5, 6, 7] [(8, 15), (24, 15)]) (.ret))
def fn15 : IFn2 RW := ⟨15, 2, 8, 48, [(8, 15), (24, 15)], [], [], [.slot 4], i15_0⟩
def g22_0 : LS := [o1 1 (.box 8 15 false (.s 0)),
 o1 2 (.mv false (.k (.sc (.int .i64 0))))]
def g22_1 : LS := [o1 3 (.load 8 0 15 true false 1),
 o1 4 (.call 10 [(false, .s 3)] [] []),
 o1 5 (.bin .neq (.s 4) (.k (.sc (.int .i64 0))))]
def g22_2 : LS := [o1 2 (.mv false (.k (.sc (.int .i64 0))))]
def g22_3 : LS := [o1 6 (.load 8 0 15 true false 1),
 o1 7 (.call 49 [(false, .s 6)] [] []),
 o1 2 (mvS 7)]
def i22_0 : CW := .seq (.fin (.reg g22_0) [0, 2] []) (.seq (.seq (.fin (.reg g22_1) [3, 4] []) (.fin (.cond (.s 5) (.seq (.fin (.reg g22_2) [1, 5] [(8, 15)]) (.ret)) (.skip)) [5] [])) (.seq (.fin (.reg g22_3) [1, 6, 7] [(8, 15)]) (.ret)))
def fn22 : IFn2 RW := ⟨22, 1, 8, 32, [(8, 15)], [], [], [.slot 2], i22_0⟩
def g26_0 : LS := [o1 1 (.box 8 15 false (.s 0)),
 o1 2 (.mv false (.k (.sc (.int .i64 0))))]
def g26_1 : LS := [o1 3 (.load 8 0 15 true false 1),
 o1 4 (.call 16 [(false, .s 3)] [] []),
 o1 5 (.bin .neq (.s 4) (.k (.sc (.int .i64 0))))]
def g26_2 : LS := [o1 2 (.mv false (.k (.sc (.int .i64 0))))]
def g26_3 : LS := [o1 6 (.load 8 0 15 true false 1),
 o1 7 (.call 50 [(false, .s 6)] [] []),
 o1 2 (mvS 7)]
def i26_0 : CW := .seq (.fin (.reg g26_0) [0, 2] []) (.seq (.seq (.fin (.reg g26_1) [3, 4] []) (.fin (.cond (.s 5) (.seq (.fin (.reg g26_2) [1, 5] [(8, 15)]) (.ret)) (.skip)) [5] [])) (.seq (.fin (.reg g26_3) [1, 6, 7] [(8, 15)]) (.ret)))
def fn26 : IFn2 RW := ⟨26, 1, 8, 32, [(8, 15)], [], [], [.slot 2], i26_0⟩
def g17_0 : LS := [o1 12 (.alloc 41 [.sc (.int .i64 0), .row false (.ruint8 []), .row false (.rPiece []), .sc (.int .i64 0), .sc (.int .i64 0), .sc (.int .i64 0), .sc (.int .u32 0), .sc (.bool false), .sc (.bool false), .sc (.int .i64 0), .sc (.bool false), .row false (.rSpan []), .sc (.int .u32 0), .sc (.int .u32 0), .sc (.bool false)]),
 o1 13 (.mv false (.k (.sc (.int .i64 0))))]
def g17_1 : LS := [o1 15 (mvS 0),
 o1 16 (.bin .lss (.s 15) (.k (.sc (.int .i64 1)))),
 o2 17 (mvS 16),
 o3 18 17 false (mvS 0),
 o3 19 17 false (.bin .gtr (.s 18) (.k (.sc (.int .i64 1073741824)))),
 o1 20 (.pick (.s 17) (.k (.sc (.bool true))) (.s 19)),
 o2 21 (mvS 20),
 o3 22 21 false (mvS 1),
 o3 23 21 false (.bin .lss (.s 22) (.k (.sc (.int .i64 0)))),
 o1 24 (.pick (.s 21) (.k (.sc (.bool true))) (.s 23)),
 o2 25 (mvS 24),
 o3 26 25 false (mvS 1),
 o3 27 25 false (.bin .gtr (.s 26) (.k (.sc (.int .i64 14)))),
 o1 28 (.pick (.s 25) (.k (.sc (.bool true))) (.s 27))]
def g17_2 : LS := [o1 29 (.build [.sc (.int .i64 0), .row false (.ruint8 []), .row false (.rPiece []), .sc (.int .i64 0), .sc (.int .i64 0), .sc (.int .i64 0), .sc (.int .u32 0), .sc (.bool false), .sc (.bool false), .sc (.int .i64 0), .sc (.bool false), .row false (.rSpan []), .sc (.int .u32 0), .sc (.int .u32 0), .sc (.bool false)] []),
 o0 (.store 41 0 15 false 12 (.s 29)),
 o1 13 (.mv false (.k (.sc (.int .i64 2))))]
def g17_3 : LS := [o1 30 (mvS 0),
 o1 31 (mvS 1),
 o1 32 (mvS 2),
 o1 33 (mvS 3),
 o1 34 (mvS 4),
 o1 35 (mvS 5),
 o1 36 (.build [.sc (.int .i64 0), .row false (.ruint8 []), .row false (.rPiece []), .sc (.int .i64 0), .sc (.int .i64 0), .sc (.int .i64 0), .sc (.int .u32 0), .sc (.bool false), .sc (.bool false), .sc (.int .i64 0), .sc (.bool false), .row false (.rSpan []), .sc (.int .u32 0), .sc (.int .u32 0), .sc (.bool false)] [(3, 1, .s 30), (4, 1, .s 31), (9, 1, .k (.sc (.int .i64 (-1)))), (12, 1, .s 32), (13, 1, .s 33), (7, 1, .s 34), (8, 1, .s 35)]),
 o1 14 (.alloc 57 [.sc (.int .i64 0), .row false (.ruint8 []), .row false (.rPiece []), .sc (.int .i64 0), .sc (.int .i64 0), .sc (.int .i64 0), .sc (.int .u32 0), .sc (.bool false), .sc (.bool false), .sc (.int .i64 0), .sc (.bool false), .row false (.rSpan []), .sc (.int .u32 0), .sc (.int .u32 0), .sc (.bool false)]),
 o0 (.store 57 0 15 false 14 (.s 36))]
def g17_4 : LS := [o1 37 (.load 57 0 15 true false 14),
 o1 38 (.call 49 [(false, .s 37)] [] []),
 o1 39 (fdS 5 14),
 o0 (.store 57 5 1 false 39 (.s 38))]
def g17_5 : LS := [o1 40 (.load 57 0 15 true false 14),
 o0 (.store 41 0 15 false 12 (.s 40)),
 o1 13 (.mv false (.k (.sc (.int .i64 0))))]
def i17_0 : CW := .seq (.fin (.reg g17_0) [13] []) (.seq (.seq (.fin (.reg g17_1) [15, 16, 17, 18, 19, 20, 21, 22, 23, 24, 25, 26, 27] []) (.fin (.cond (.s 28) (.seq (.fin (.reg g17_2) [0, 1, 2, 3, 4, 5, 28, 29] []) (.ret)) (.skip)) [28] [])) (.seq (.fin (.reg g17_3) [0, 1, 2, 3, 4, 5, 30, 31, 32, 33, 34, 35, 36] []) (.seq (.fin (.reg g17_4) [37, 38, 39] []) (.seq (.fin (.reg g17_5) [14, 40] [(57, 15)]) (.ret)))))
def fn17 : IFn2 RW := ⟨17, 6, 41, 80, [(41, 15), (57, 15)], [], [], [.cell 12 41 15 true, .slot 13], i17_0⟩
def g31_0 : LS := [o1 4 (.mv false (.k (.sc (.int .i64 0))))]
def g31_1 : LS := [o1 5 (mvS 1),
 o1 6 (mvS 0),
 o1 7 (bnS .sub 5 6),
 o1 8 (.conv .i32 (.s 7)),
 o1 9 (.conv .i64 (.s 8)),
 o1 4 (mvS 9)]
def i31_0 : CW := .seq (.fin (.reg g31_0) [4] []) (.seq (.fin (.reg g31_1) [0, 1, 5, 6, 7, 8, 9] []) (.ret))
def fn31 : IFn2 RW := ⟨31, 2, 10, 16, [], [], [], [.slot 4], i31_0⟩
def g58_0 : LS := [o1 4 (.mv false (.k (.sc (.int .i64 0))))]
def g58_1 : LS := [o1 6 (mvS 0),
 o1 7 (mvS 1),
 o1 8 (bnS .add 6 7),
 o1 5 (mvS 8)]
def g58_2 : LS := [o1 10 (mvS 0),
 o1 11 (.bin .gtr (.s 10) (.k (.sc (.int .i64 0)))),
 o2 12 (mvS 11),
 o3 13 12 true (mvS 1),
 o3 14 12 true (.bin .gtr (.s 13) (.k (.sc (.int .i64 0)))),
 o1 15 (.pick (.s 12) (.s 14) (.k (.sc (.bool false)))),
 o2 16 (mvS 15),
 o3 17 16 true (mvS 5),
 o3 18 16 true (.bin .lss (.s 17) (.k (.sc (.int .i64 0)))),
 o1 19 (.pick (.s 16) (.s 18) (.k (.sc (.bool false)))),
 o1 9 (mvS 19)]
def g58_3 : LS := [o1 4 (.mv false (.k (.sc (.int .i64 9223372036854775807))))]
def g58_4 : LS := [o1 21 (mvS 0),
 o1 22 (.bin .lss (.s 21) (.k (.sc (.int .i64 0)))),
 o2 23 (mvS 22),
 o3 24 23 true (mvS 1),
 o3 25 23 true (.bin .lss (.s 24) (.k (.sc (.int .i64 0)))),
 o1 26 (.pick (.s 23) (.s 25) (.k (.sc (.bool false)))),
 o2 27 (mvS 26),
 o3 28 27 true (mvS 5),
 o3 29 27 true (.bin .geq (.s 28) (.k (.sc (.int .i64 0)))),
 o1 30 (.pick (.s 27) (.s 29) (.k (.sc (.bool false)))),
 o1 20 (mvS 30)]
def g58_5 : LS := [o1 4 (.mv false (.k (.sc (.int .i64 (-9223372036854775808)))))]
def g58_6 : LS := [o1 31 (mvS 5),
 o1 4 (mvS 31)]
def i58_0 : CW := .seq (.fin (.reg g58_0) [4] []) (.seq (.fin (.reg g58_1) [6, 7, 8] []) (.seq (.blk 0 (.seq (.fin (.reg g58_2) [10, 11, 12, 13, 14, 15, 16, 17, 18, 19] []) (.cond (.s 9) (.seq (.fin (.reg g58_3) [0, 1, 5, 9] []) (.ret)) (.seq (.fin (.reg g58_4) [0, 1, 9, 21, 22, 23, 24, 25, 26, 27, 28, 29, 30] []) (.fin (.cond (.s 20) (.seq (.fin (.reg g58_5) [5, 20] []) (.ret)) (.skip)) [20] []))))) (.seq (.fin (.reg g58_6) [5, 31] []) (.ret))))
def fn58 : IFn2 RW := ⟨58, 2, 32, 32, [], [], [], [.slot 4], i58_0⟩
def g30_0 : LS := [o1 4 (.mv false (.k (.sc (.int .i64 0))))]
def g30_1 : LS := [o1 5 (mvS 0),
 o1 6 (mvS 0),
 o1 7 (.conv .u32 (.s 6)),
 o1 8 (mvS 1),
 o1 9 (.call 31 [(false, .s 7), (false, .s 8)] [] []),
 o1 10 (.call 58 [(false, .s 5), (false, .s 9)] [] []),
 o1 4 (mvS 10)]
def i30_0 : CW := .seq (.fin (.reg g30_0) [4] []) (.seq (.fin (.reg g30_1) [0, 1, 5, 6, 7, 8, 9, 10] []) (.ret))
def fn30 : IFn2 RW := ⟨30, 2, 11, 16, [], [], [], [.slot 4], i30_0⟩
def g33_3 : LS := [o1 6 (.alloc 50 [.sc (.int .i64 0), .sc (.int .i64 0)]),
 o0 (.store 50 0 2 false 6 (.s 11))]
def i33_0 : CW := .fin (.reg g33_3) [11] []
def g33_4 : LS := [o1 12 (fdS 1 6),
 o1 13 (ldS 50 1 12),
 o0 (.store 48 0 1 false 5 (.s 13))]
def i33_1 : CW := .blk 1 (.fin (.reg g33_4) [6, 12, 13] [(50, 2)])
def i33_2 : CW := .seq i33_0 i33_1
def g33_1000 : LS := [o1 5 (fdS 2 1),
 o1 6 (ldS 53 2 5),
 o1 7 (lnS 6),
 o1 8 (.mv false (.k (.sc (.int .i64 0))))]
def g33_1001 : LS := [o1 9 (bnS .lss 8 7)]
def g33_1002 : LS := [o1 10 (ixS 2 6 8),
 o1 11 (.loade 2 true 10),
 o1 4 (.alloc 69 [.sc (.int .i64 0), .row false (.ruint8 [])]),
 o0 (.store 69 0 2 false 4 (.s 11))]
def g33_10031 : LS := [o1 12 (mvS 0),
 o1 13 (.load 69 0 2 true false 4),
 o1 14 (.call 71 [(false, .s 13)] [] [])]
def g33_10032 : LS := [o1 16 (ntS 15)]
def g33_1004 : LS := [o1 17 (.bin .add (.s 8) (.k (.sc (.int .i64 1)))),
 o1 8 (mvS 17)]
def i33_3 : CW := .seq (.fin (.reg g33_1000) [1, 5] []) (.blk 0 (.loop (.seq (.reg g33_1001) (.seq (.fin (.cond (.s 9) (.skip) (.clr [0, 6, 7, 8, 9] [] (.exit 0))) [9] []) (.seq (.blk 1 (.seq (.fin (.reg g33_1002) [10, 11] []) (.seq (.fin (.yreg g33_10031 (.s 12) [.s 14] none 15 g33_10032) [4, 12, 13, 14, 15] [(69, 2)]) (.fin (.cond (.s 16) (.clr [0, 6, 7, 8, 16] [] (.ret)) (.skip)) [16] [])))) (.fin (.reg g33_1004) [17] []))))))
def i33_4 : CW := .fin (.yreg g33_10031 (.s 12) [.s 14] none 15 g33_10032) [4, 12, 13, 14, 15] [(69, 2)]
def i33_5 : CW := .fin (.cond (.s 16) (.clr [0, 6, 7, 8, 16] [] (.ret)) (.skip)) [16] []
def i33_6 : CW := .seq i33_4 i33_5
def i33_7 : CW := .seq (.fin (.reg g33_1002) [10, 11] []) i33_6
def i33_8 : CW := .blk 1 i33_7
def i33_9 : CW := .fin (.reg g33_1004) [17] []
def i33_10 : CW := .seq i33_8 i33_9
def i33_11 : CW := .seq (.reg g33_1001) (.seq (.fin (.cond (.s 9) (.skip) (.clr [0, 6, 7, 8, 9] [] (.exit 0))) [9] []) i33_10)
def i33_12 : CW := .loop i33_11
def i33_13 : CW := .blk 0 i33_12
def i33_14 : CW := .fin (.rfn (.s 10) 70 2 18 [11] i33_3 i33_0 i33_1 [32, 48, 53] [32, 48, 53, 69]) [10] [(53, 15)]
def i33_15 : CW := .blk 0 i33_14
def g33_2 : LS := [o1 9 (.load 32 0 15 true false 2),
 o1 10 (.call 55 [(false, .s 9)] [] [(4, 15, 53)])]
def i33_16 : CW := .seq (.fin (.reg g33_2) [9] []) i33_15
def g33_5 : LS := [o1 14 (fdS 9 2),
 o1 15 (ldS 32 9 14),
 o1 16 (.bin .lss (.s 15) (.k (.sc (.int .i64 0)))),
 o2 17 (mvS 16),
 o3 18 17 true (mvS 1),
 o3 19 17 true (ldS 48 0 5),
 o3 20 17 true (bnS .geq 18 19),
 o1 21 (.pick (.s 17) (.s 20) (.k (.sc (.bool false)))),
 o2 22 (mvS 21),
 o3 23 22 true (mvS 1),
 o3 24 22 true (.load 32 0 15 true false 2),
 o3 25 22 true (.call 53 [(false, .s 24)] [] []),
 o3 26 22 true (bnS .leq 23 25),
 o1 27 (.pick (.s 22) (.s 26) (.k (.sc (.bool false))))]
def g33_6 : LS := [o1 28 (mvS 1),
 o1 4 (mvS 28)]
def g33_7 : LS := [o1 29 (fdS 9 2),
 o1 30 (ldS 32 9 29),
 o1 4 (mvS 30)]
def i33_17 : CW := .seq (.seq (.fin (.reg g33_5) [5, 14, 15, 16, 17, 18, 19, 20, 21, 22, 23, 24, 25, 26] [(48, 1)]) (.fin (.cond (.s 27) (.seq (.fin (.reg g33_6) [1, 2, 27, 28] [(32, 15)]) (.ret)) (.skip)) [1, 27] [])) (.seq (.fin (.reg g33_7) [2, 29, 30] [(32, 15)]) (.ret))
def i33_18 : CW := .seq i33_16 i33_17
def g33_0 : LS := [o1 2 (.box 32 15 false (.s 0)),
 o1 4 (.mv false (.k (.sc (.int .i64 0))))]
def g33_1 : LS := [o1 7 (fdS 0 2),
 o1 8 (ldS 32 0 7),
 o1 5 (.alloc 48 [.sc (.int .i64 0)]),
 o0 (.store 48 0 1 false 5 (.s 8))]
def i33_19 : CW := .seq (.fin (.reg g33_0) [0, 4] []) (.seq (.fin (.reg g33_1) [7, 8] []) i33_18)
def fn33 : IFn2 RW := ⟨33, 2, 31, 80, [(32, 15), (48, 1), (50, 2), (53, 15), (69, 2)], [], [], [.slot 4], i33_19⟩
def g82_0 : LS := [o1 1 (.box 18 2 false (.s 0)),
 o1 2 (.mv false (.k (.sc (.bool false))))]
def g82_1 : LS := [o1 3 (fdS 0 1),
 o1 4 (ldS 18 0 3),
 o1 5 (.bin .geq (.s 4) (.k (.sc (.int .i64 0)))),
 o2 6 (mvS 5),
 o3 7 6 true (fdS 0 1),
 o3 8 6 true (ldS 18 0 7),
 o3 9 6 true (fdS 1 1),
 o3 10 6 true (ldS 18 1 9),
 o3 11 6 true (bnS .leq 8 10),
 o1 12 (.pick (.s 6) (.s 11) (.k (.sc (.bool false)))),
 o2 13 (mvS 12),
 o3 14 13 true (fdS 1 1),
 o3 15 13 true (ldS 18 1 14),
 o3 16 13 true (.bin .leq (.s 15) (.k (.sc (.int .i64 1125899906842624)))),
 o1 17 (.pick (.s 13) (.s 16) (.k (.sc (.bool false)))),
 o1 2 (mvS 17)]
def i82_0 : CW := .seq (.fin (.reg g82_0) [0, 2] []) (.seq (.fin (.reg g82_1) [1, 3, 4, 5, 6, 7, 8, 9, 10, 11, 12, 13, 14, 15, 16, 17] [(18, 2)]) (.ret))
def fn82 : IFn2 RW := ⟨82, 1, 18, 32, [(18, 2)], [], [], [.slot 2], i82_0⟩
def g78_2 : LS := [o1 8 (bnS .lss 7 6)]
def g78_3 : LS := [o1 9 (mvS 7),
 o1 10 (ixS 2 5 7),
 o1 11 (.loade 2 true 10),
 o1 4 (.alloc 38 [.sc (.int .i64 0), .sc (.int .i64 0)]),
 o1 3 (mvS 9),
 o0 (.store 38 0 2 false 4 (.s 11))]
def g78_4 : LS := [o1 12 (.load 38 0 2 true false 4),
 o1 13 (.call 82 [(false, .s 12)] [] []),
 o1 14 (ntS 13),
 o2 15 (mvS 14),
 o3 16 15 false (fdS 0 4),
 o3 17 15 false (ldS 38 0 16),
 o3 18 15 false (fdS 1 4),
 o3 19 15 false (ldS 38 1 18),
 o3 20 15 false (bnS .eql 17 19),
 o1 21 (.pick (.s 15) (.k (.sc (.bool true))) (.s 20)),
 o2 22 (mvS 21),
 o3 23 22 false (mvS 3),
 o3 24 22 false (.bin .gtr (.s 23) (.k (.sc (.int .i64 0)))),
  ⟨some 25, .mv false (.s 24), (some (22, false)), true⟩,
 o3 26 25 true (mvS 0),
 o3 27 25 true (mvS 3),
 o3 28 25 true (.bin .sub (.s 27) (.k (.sc (.int .i64 1)))),
 o3 29 25 true (ixS 2 26 28),
 o3 30 25 true (fdS 1 29),
 o3 31 25 true (.loade 1 false 30),
 o3 32 25 true (fdS 0 4),
 o3 33 25 true (ldS 38 0 32),
 o3 34 25 true (bnS .geq 31 33),
 o3 35 22 false (.pick (.s 25) (.s 34) (.k (.sc (.bool false)))),
 o1 36 (.pick (.s 22) (.k (.sc (.bool true))) (.s 35))]
def g78_5 : LS := [o1 2 (.mv false (.k (.sc (.int .i64 60))))]
def g78_6 : LS := [o1 37 (.bin .add (.s 7) (.k (.sc (.int .i64 1)))),
 o1 7 (mvS 37)]
def i78_0 : CW := .seq (.reg g78_2) (.seq (.fin (.cond (.s 8) (.skip) (.clr [0, 5, 6, 7, 8] [] (.exit 0))) [8] []) (.seq (.blk 1 (.seq (.fin (.reg g78_3) [9, 10, 11] []) (.seq (.fin (.reg g78_4) [3, 4, 12, 13, 14, 15, 16, 17, 18, 19, 20, 21, 22, 23, 24, 25, 26, 27, 28, 29, 30, 31, 32, 33, 34, 35] [(38, 2)]) (.fin (.cond (.s 36) (.seq (.fin (.reg g78_5) [0, 5, 6, 7, 36] []) (.ret)) (.skip)) [36] [])))) (.fin (.reg g78_6) [37] [])))
def i78_1 : CW := .loop i78_0
def i78_2 : CW := .blk 0 i78_1
def g78_1 : LS := [o1 5 (mvS 0),
 o1 6 (lnS 5),
 o1 7 (.mv false (.k (.sc (.int .i64 0))))]
def i78_3 : CW := .seq (.reg g78_1) i78_2
def g78_7 : LS := [o1 2 (.mv false (.k (.sc (.int .i64 0))))]
def i78_4 : CW := .seq (.reg g78_7) (.ret)
def i78_5 : CW := .seq i78_3 i78_4
def g78_0 : LS := [o1 2 (.mv false (.k (.sc (.int .i64 0))))]
def i78_6 : CW := .seq (.fin (.reg g78_0) [2] []) i78_5
def fn78 : IFn2 RW := ⟨78, 1, 38, 48, [(38, 2)], [], [], [.slot 2], i78_6⟩
def g79_0 : LS := [o1 2 (.box 6 1 false (.s 0)),
 o1 3 (.box 8 2 false (.s 1)),
 o1 4 (.mv false (.k (.sc .nilFunc)))]
def g79_1 : LS := [o1 5 (.mkclo 83 [.s 2, .s 3]),
 o1 4 (mvS 5)]
def i79_0 : CW := .seq (.fin (.reg g79_0) [0, 1, 4] []) (.seq (.fin (.reg g79_1) [2, 3, 5] []) (.ret))
def fn79 : IFn2 RW := ⟨79, 2, 6, 16, [(6, 1), (8, 2)], [], [(6, 1), (8, 2)], [.slot 4], i79_0⟩
def g61_6 : LS := [o1 7 (.alloc 71 [.sc (.int .i64 0), .sc (.int .i64 0)]),
 o0 (.store 71 0 2 false 7 (.s 23))]
def i61_0 : CW := .fin (.reg g61_6) [23] []
def g61_7 : LS := [o1 24 (ldS 69 0 6),
 o1 25 (fdS 0 7),
 o1 26 (ldS 71 0 25),
 o1 27 (bnS .lss 24 26)]
def g61_8 : LS := [o1 28 (.load 67 0 1 false true 5),
 o1 29 (ldS 69 0 6),
 o1 30 (fdS 0 7),
 o1 31 (ldS 71 0 30),
 o1 32 (.build [.sc (.int .i64 0), .sc (.int .i64 0)] [(0, 1, .s 29), (1, 1, .s 31)]),
 o1 33 (.bslice 78 1 [(0, 2, .s 32)]),
 o1 34 (.app 2 16 true (.s 28) (.s 33)),
 o0 (.store 67 0 1 true 5 (.s 34))]
def g61_9 : LS := [o1 35 (fdS 1 7),
 o1 36 (ldS 71 1 35),
 o0 (.store 69 0 1 false 6 (.s 36))]
def i61_1 : CW := .blk 1 (.seq (.seq (.fin (.reg g61_7) [24, 25, 26] []) (.fin (.cond (.s 27) (.fin (.reg g61_8) [27, 28, 29, 30, 31, 32, 33, 34] []) (.skip)) [27] [])) (.fin (.reg g61_9) [7, 35, 36] [(71, 2)]))
def i61_2 : CW := .seq i61_0 i61_1
def g61_1000 : LS := [o1 7 (ldS 74 0 1),
 o1 8 (lnS 7),
 o1 9 (.mv false (.k (.sc (.int .i64 0))))]
def g61_1001 : LS := [o1 10 (bnS .lss 9 8)]
def g61_1002 : LS := [o1 11 (ixS 2 7 9),
 o1 12 (.loade 2 true 11),
 o1 5 (.alloc 79 [.sc (.int .i64 0), .sc (.int .i64 0)]),
 o0 (.store 79 0 2 false 5 (.s 12))]
def g61_1003 : LS := [o1 13 (fdS 0 5),
 o1 14 (ldS 79 0 13),
 o1 15 (fdS 0 2),
 o1 16 (ldS 76 0 15),
 o1 17 (.mnmx true [.s 14, .s 16]),
 o1 18 (fdS 1 5),
 o1 19 (ldS 79 1 18),
 o1 20 (fdS 1 2),
 o1 21 (ldS 76 1 20),
 o1 22 (.mnmx false [.s 19, .s 21]),
 o1 23 (.build [.sc (.int .i64 0), .sc (.int .i64 0)] [(0, 1, .s 17), (1, 1, .s 22)]),
 o1 6 (.alloc 82 [.sc (.int .i64 0), .sc (.int .i64 0)]),
 o0 (.store 82 0 2 false 6 (.s 23))]
def g61_10041 : LS := [o1 24 (fdS 0 6),
 o1 25 (ldS 82 0 24),
 o1 26 (fdS 1 6),
 o1 27 (ldS 82 1 26),
 o1 28 (bnS .lss 25 27),
 o2 29 (mvS 28),
 o3 30 29 true (mvS 0),
 o3 31 29 true (.load 82 0 2 true false 6)]
def g61_10042 : LS := [o3 33 29 true (ntS 32),
 o1 34 (.pick (.s 29) (.s 33) (.k (.sc (.bool false))))]
def g61_1005 : LS := [o1 35 (.bin .add (.s 9) (.k (.sc (.int .i64 1)))),
 o1 9 (mvS 35)]
def i61_3 : CW := .seq (.fin (.reg g61_1000) [1] []) (.blk 0 (.loop (.seq (.reg g61_1001) (.seq (.fin (.cond (.s 10) (.skip) (.clr [0, 2, 7, 8, 9, 10] [] (.exit 0))) [10] []) (.seq (.blk 1 (.seq (.fin (.reg g61_1002) [11, 12] []) (.seq (.fin (.reg g61_1003) [5, 13, 14, 15, 16, 17, 18, 19, 20, 21, 22, 23] [(79, 2)]) (.seq (.fin (.yreg g61_10041 (.s 30) [.s 31] (some (29, true)) 32 g61_10042) [6, 24, 25, 26, 27, 28, 29, 30, 31, 32, 33] [(82, 2)]) (.fin (.cond (.s 34) (.clr [0, 2, 7, 8, 9, 34] [] (.ret)) (.skip)) [34] []))))) (.fin (.reg g61_1005) [35] []))))))
def i61_4 : CW := .fin (.yreg g61_10041 (.s 30) [.s 31] (some (29, true)) 32 g61_10042) [6, 24, 25, 26, 27, 28, 29, 30, 31, 32, 33] [(82, 2)]
def i61_5 : CW := .fin (.cond (.s 34) (.clr [0, 2, 7, 8, 9, 34] [] (.ret)) (.skip)) [34] []
def i61_6 : CW := .seq i61_4 i61_5
def i61_7 : CW := .seq (.fin (.reg g61_1002) [11, 12] []) (.seq (.fin (.reg g61_1003) [5, 13, 14, 15, 16, 17, 18, 19, 20, 21, 22, 23] [(79, 2)]) i61_6)
def i61_8 : CW := .blk 1 i61_7
def i61_9 : CW := .fin (.reg g61_1005) [35] []
def i61_10 : CW := .seq i61_8 i61_9
def i61_11 : CW := .seq (.reg g61_1001) (.seq (.fin (.cond (.s 10) (.skip) (.clr [0, 2, 7, 8, 9, 10] [] (.exit 0))) [10] []) i61_10)
def i61_12 : CW := .loop i61_11
def i61_13 : CW := .blk 0 i61_12
def i61_14 : CW := .fin (.rfn (.s 22) 83 4 36 [23] i61_3 i61_0 i61_1 [64, 67, 69, 74, 76] [64, 67, 69, 74, 76, 79, 82]) [22] [(74, 1), (76, 2)]
def i61_15 : CW := .blk 0 i61_14
def g61_5 : LS := [o1 20 (mvS 0),
 o1 21 (.load 64 0 2 true false 3),
 o1 22 (.call 79 [(false, .s 20), (false, .s 21)] [] [(6, 1, 74), (8, 2, 76)])]
def i61_16 : CW := .seq (.fin (.reg g61_5) [0, 20, 21] []) i61_15
def g61_10 : LS := [o1 37 (ldS 69 0 6),
 o1 38 (fdS 1 3),
 o1 39 (ldS 64 1 38),
 o1 40 (bnS .lss 37 39)]
def g61_11 : LS := [o1 41 (.load 67 0 1 false true 5),
 o1 42 (ldS 69 0 6),
 o1 43 (fdS 1 3),
 o1 44 (ldS 64 1 43),
 o1 45 (.build [.sc (.int .i64 0), .sc (.int .i64 0)] [(0, 1, .s 42), (1, 1, .s 44)]),
 o1 46 (.bslice 78 1 [(0, 2, .s 45)]),
 o1 47 (.app 2 16 true (.s 41) (.s 46)),
 o0 (.store 67 0 1 true 5 (.s 47))]
def g61_12 : LS := [o1 48 (ldS 67 0 5),
 o1 4 (mvS 48)]
def i61_17 : CW := .seq (.seq (.fin (.reg g61_10) [37, 38, 39] []) (.fin (.cond (.s 40) (.fin (.reg g61_11) [3, 6, 40, 41, 42, 43, 44, 45, 46, 47] [(64, 2), (69, 1)]) (.skip)) [3, 6, 40] [(64, 2), (69, 1)])) (.seq (.fin (.reg g61_12) [5, 48] [(67, 1)]) (.ret))
def i61_18 : CW := .seq i61_16 i61_17
def g61_0 : LS := [o1 3 (.box 64 2 false (.s 1)),
 o1 4 (.mv false (.k (.row false (.rSpan []))))]
def g61_1 : LS := [o1 8 (mvS 0),
 o1 9 (.call 78 [(false, .s 8)] [] []),
 o1 10 (.bin .neq (.s 9) (.k (.sc (.int .i64 0)))),
 o2 11 (mvS 10),
 o3 12 11 false (fdS 0 3),
 o3 13 11 false (ldS 64 0 12),
 o3 14 11 false (fdS 1 3),
 o3 15 11 false (ldS 64 1 14),
 o3 16 11 false (bnS .geq 13 15),
 o1 17 (.pick (.s 11) (.k (.sc (.bool true))) (.s 16))]
def g61_2 : LS := [o1 4 (.mv false (.k (.row false (.rSpan []))))]
def g61_3 : LS := [o1 5 (.alloc 67 [.row true (.rSpan [])])]
def g61_4 : LS := [o1 18 (fdS 0 3),
 o1 19 (ldS 64 0 18),
 o1 6 (.alloc 69 [.sc (.int .i64 0)]),
 o0 (.store 69 0 1 false 6 (.s 19))]
def i61_19 : CW := .seq (.fin (.reg g61_0) [1, 4] []) (.seq (.seq (.fin (.reg g61_1) [8, 9, 10, 11, 12, 13, 14, 15, 16] []) (.fin (.cond (.s 17) (.seq (.fin (.reg g61_2) [0, 3, 17] [(64, 2)]) (.ret)) (.skip)) [17] [])) (.seq (.reg g61_3) (.seq (.fin (.reg g61_4) [18, 19] []) i61_18)))
def fn61 : IFn2 RW := ⟨61, 2, 49, 96, [(64, 2), (67, 1), (69, 1), (71, 2), (74, 1), (76, 2), (79, 2), (82, 2)], [], [], [.slot 4], i61_19⟩
def g74_0 : LS := [o1 2 (.box 9 2 false (.s 0)),
 o1 4 (.mv false (.k (.sc (.int .i64 0))))]
def g74_1 : LS := [o1 5 (fdS 0 2),
 o1 6 (ldS 9 0 5),
 o1 7 (mvS 1),
 o1 8 (bnS .sub 6 7),
 o1 4 (mvS 8)]
def i74_0 : CW := .seq (.fin (.reg g74_0) [0, 4] []) (.seq (.fin (.reg g74_1) [1, 2, 5, 6, 7, 8] [(9, 2)]) (.ret))
def fn74 : IFn2 RW := ⟨74, 2, 9, 16, [(9, 2)], [], [], [.slot 4], i74_0⟩
def g1052_3 : LS := [o1 15 (mvS 9),
 o1 16 (mvS 10),
 o1 17 (bnS .lss 15 16)]
def g1052_4 : LS := [o1 18 (mvS 9),
 o1 19 (mvS 10),
 o1 20 (bnS .add 18 19),
 o1 21 (.conv .u64 (.s 20)),
 o1 22 (.bin .shr (.s 21) (.k (.sc (.int .u64 1)))),
 o1 23 (.conv .i64 (.s 22)),
 o1 11 (mvS 23)]
def g1052_5 : LS := [o1 24 (mvS 2),
 o1 25 (mvS 0),
 o1 26 (mvS 11),
 o1 27 (ixS 2 25 26),
 o1 28 (.loade 2 true 27),
 o1 29 (mvS 1),
 o1 30 (.callv (.s 24) 74 74 [(false, .s 28), (false, .s 29)] [] []),
 o1 31 (.bin .lss (.s 30) (.k (.sc (.int .i64 0))))]
def g1052_6 : LS := [o1 32 (mvS 11),
 o1 33 (.bin .add (.s 32) (.k (.sc (.int .i64 1)))),
 o1 9 (mvS 33)]
def g1052_7 : LS := [o1 34 (mvS 11),
 o1 10 (mvS 34)]
def i1052_0 : CW := .seq (.seq (.fin (.reg g1052_3) [15, 16] []) (.fin (.cond (.s 17) (.skip) (.clr [10, 17] [] (.exit 0))) [17] [])) (.blk 1 (.seq (.fin (.reg g1052_4) [18, 19, 20, 21, 22, 23] []) (.seq (.fin (.reg g1052_5) [24, 25, 26, 27, 28, 29, 30] []) (.cond (.s 31) (.fin (.reg g1052_6) [11, 31, 32, 33] []) (.fin (.reg g1052_7) [11, 31, 34] [])))))
def i1052_1 : CW := .loop i1052_0
def i1052_2 : CW := .blk 0 i1052_1
def g1052_8 : LS := [o1 35 (mvS 9),
 o1 36 (mvS 9),
 o1 37 (mvS 8),
 o1 38 (bnS .lss 36 37),
 o2 39 (mvS 38),
 o3 40 39 true (mvS 2),
 o3 41 39 true (mvS 0),
 o3 42 39 true (mvS 9),
 o3 43 39 true (ixS 2 41 42),
 o3 44 39 true (.loade 2 true 43),
 o3 45 39 true (mvS 1),
 o3 46 39 true (.callv (.s 40) 74 74 [(false, .s 44), (false, .s 45)] [] []),
 o3 47 39 true (.bin .eql (.s 46) (.k (.sc (.int .i64 0)))),
 o1 48 (.pick (.s 39) (.s 47) (.k (.sc (.bool false)))),
 o1 6 (mvS 35),
 o1 7 (mvS 48)]
def i1052_3 : CW := .seq (.fin (.reg g1052_8) [0, 1, 2, 8, 9, 35, 36, 37, 38, 39, 40, 41, 42, 43, 44, 45, 46, 47, 48] []) (.ret)
def i1052_4 : CW := .seq i1052_2 i1052_3
def g1052_0 : LS := [o1 6 (.mv false (.k (.sc (.int .i64 0)))),
 o1 7 (.mv false (.k (.sc (.bool false))))]
def g1052_1 : LS := [o1 12 (mvS 0),
 o1 13 (lnS 12),
 o1 8 (mvS 13)]
def g1052_2 : LS := [o1 14 (mvS 8),
 o1 9 (.mv false (.k (.sc (.int .i64 0)))),
 o1 10 (mvS 14)]
def i1052_5 : CW := .seq (.fin (.reg g1052_0) [6, 7] []) (.seq (.fin (.reg g1052_1) [12, 13] []) (.seq (.fin (.reg g1052_2) [14] []) i1052_4))
def fn1052 : IFn2 RW := ⟨73, 3, 49, 64, [], [], [], [.slot 6, .slot 7], i1052_5⟩
end
/-! slices.Clone[[]tideway/api.Piece,tideway/api.Piece] -/
section
variable (cp : CP) (n : Nat) (k : KX R)
def g1054_0 : List IStep := [⟨(some 2), .unew (.un none 2 0 (fun _ => [.sc (.int .i64 0), .row false 1 0 (fun _ => [.sc (.int .u8 0)])])), none, false⟩]
def g1054_1 : List IStep := [⟨(some 3), .mv false (.s 0), none, false⟩,
  ⟨(some 4), .nilq false (.s 3), none, false⟩]
def g1054_2 : List IStep := [⟨(some 2), .unew (.un none 2 0 (fun _ => [.sc (.int .i64 0), .row false 1 0 (fun _ => [.sc (.int .u8 0)])])), none, false⟩]
def g1054_3 : List IStep := [⟨(some 5), .bslice 2 0 [.sc (.int .i64 0), .row false 1 0 (fun _ => [.sc (.int .u8 0)])] [], none, false⟩,
  ⟨(some 6), .mv false (.s 0), none, false⟩,
  ⟨(some 7), .uapp 2 32 (.s 5) (.s 6), none, false⟩,
  ⟨(some 2), .mv true (.s 7), none, false⟩]
def fn1054 : IFn := ⟨76, 1, 8, 8, [], [], [], [.slot 2],
  .seq (.fin (.reg g1054_0) [2] []) (.seq (.seq (.fin (.reg g1054_1) [3] []) (.fin (.cond (.s 4) (.seq (.fin (.reg g1054_2) [0, 4] []) (.ret)) (.skip)) [4] [])) (.seq (.fin (.reg g1054_3) [0, 5, 6, 7] []) (.ret)))⟩

def fn75 : IFn := ⟨75, 3, 95, 3, [], [], [], [], .plug 2 32⟩
def g77_0 : LS := [o1 2 (.mv true (.k (.row true (.ruint8 []))))]
def g77_1 : LS := [o1 3 (mvS 0),
 o1 4 (mvS 0),
 o1 5 (lnS 4),
 o1 6 (mvS 0),
 o1 7 (lnS 6),
 o1 8 (.slice 1 (.s 3) none (some (.s 5)) (some (.s 7))),
 o1 2 (.mv true (.s 8))]
def i77_0 : CW := .seq (.fin (.reg g77_0) [2] []) (.seq (.fin (.reg g77_1) [0, 3, 4, 5, 6, 7, 8] []) (.ret))
def fn77 : IFn2 RW := ⟨77, 1, 9, 16, [], [], [], [.slot 2], i77_0⟩
def g60_5 : LS := [o1 32 (bnS .lss 31 30)]
def g60_6 : LS := [o1 33 (ixS 2 29 31),
 o1 34 (.loade 2 true 33),
 o1 9 (.alloc 75 [.sc (.int .i64 0), .row false (.ruint8 [])]),
 o0 (.store 75 0 2 false 9 (.s 34))]
def g60_7 : LS := [o1 35 (.ualias (.s 7)),
 o1 36 (lnS 35),
 o1 10 (mvS 36)]
def g60_8 : LS := [o1 37 (mvS 10),
 o1 38 (.bin .gtr (.s 37) (.k (.sc (.int .i64 0)))),
 o2 39 (mvS 38),
 o3 40 39 true (.ualias (.s 7)),
 o3 41 39 true (mvS 10),
 o3 42 39 true (.bin .sub (.s 41) (.k (.sc (.int .i64 1)))),
 o3 43 39 true (.uidx 2 (.s 40) (.s 42)),
 o3 44 39 true (.uload 7 2 true 43),
 o3 45 39 true (.call 71 [(false, .s 44)] [] []),
 o3 46 39 true (.fieldv 1 1 false (.s 45)),
 o3 47 39 true (fdS 0 9),
 o3 48 39 true (ldS 75 0 47),
 o3 49 39 true (bnS .eql 46 48),
 o1 50 (.pick (.s 39) (.s 49) (.k (.sc (.bool false))))]
def g60_9 : LS := [o1 51 (.ualias (.s 7)),
 o1 52 (mvS 10),
 o1 53 (.bin .sub (.s 52) (.k (.sc (.int .i64 1)))),
 o1 54 (.ualias (.s 7)),
 o1 55 (mvS 10),
 o1 56 (.bin .sub (.s 55) (.k (.sc (.int .i64 1)))),
 o1 57 (.uidx 2 (.s 54) (.s 56)),
 o1 58 (fdS 1 57),
 o1 59 (.uload 7 1 false 58),
 o1 60 (.call 77 [(false, .s 59)] [] []),
 o1 61 (fdS 1 9),
 o1 62 (ldS 75 1 61),
 o1 63 (.app 1 1 true (.s 60) (.s 62)),
 o1 64 (.uidx 2 (.s 51) (.s 53)),
 o1 65 (fdS 1 64),
 o0 (.ustore 7 1 65 (.s 63))]
def g60_10 : LS := [o1 66 (.mv true (.s 7)),
 o1 67 (.load 75 0 2 true false 9),
 o1 68 (.bslice 74 1 [(0, 2, .s 67)]),
 o1 69 (.uapp 2 32 (.s 66) (.s 68)),
 o1 7 (.mv true (.s 69))]
def g60_11 : LS := [o1 70 (.bin .add (.s 31) (.k (.sc (.int .i64 1)))),
 o1 31 (mvS 70)]
def i60_0 : CW := .seq (.reg g60_5) (.seq (.fin (.cond (.s 32) (.skip) (.clr [29, 30, 31, 32] [] (.exit 0))) [32] []) (.seq (.blk 1 (.seq (.fin (.reg g60_6) [33, 34] []) (.seq (.seq (.brw 7 (.fin (.reg g60_7) [35, 36] [])) (.seq (.brw 7 (.fin (.reg g60_8) [37, 38, 39, 40, 41, 42, 43, 44, 45, 46, 47, 48, 49] [])) (.fin (.cond (.s 50) (.seq (.brw 7 (.fin (.reg g60_9) [9, 10, 50, 51, 52, 53, 54, 55, 56, 57, 58, 59, 60, 61, 62, 63, 64, 65] [(75, 2)])) (.exit 1)) (.skip)) [10, 50] []))) (.fin (.reg g60_10) [9, 66, 67, 68, 69] [(75, 2)])))) (.fin (.reg g60_11) [70] [])))
def i60_1 : CW := .loop i60_0
def i60_2 : CW := .blk 0 i60_1
def g60_4 : LS := [o1 29 (mvS 0),
 o1 30 (lnS 29),
 o1 31 (.mv false (.k (.sc (.int .i64 0))))]
def i60_3 : CW := .seq (.fin (.reg g60_4) [0] []) i60_2
def g60_12 : LS := [o1 71 (.mv true (.s 7)),
 o1 4 (.ufrz (.s 71))]
def i60_4 : CW := .seq (.fin (.reg g60_12) [7, 71] []) (.ret)
def i60_5 : CW := .seq i60_3 i60_4
def g60_0 : LS := [o1 3 (.box 72 2 false (.s 1)),
 o1 4 (.mv true (.k (.row true (.rPiece []))))]
def g60_1 : LS := [o1 12 (mvS 0),
 o1 13 (fdS 0 3),
 o1 14 (ldS 72 0 13),
 o1 15 (.call 1052 [(false, .s 12), (false, .s 14), (false, .k (.clo 74 []))] [] []),
 o1 11 (mvS 15),
 o1 16 (.ext false 0 (.s 11)),
 o1 17 (.ext false 1 (.s 11)),
 o1 5 (mvS 16),
 o1 6 (mvS 17)]
def g60_2 : LS := [o1 18 (mvS 0),
 o1 19 (.call 1054 [(false, .s 18)] [] []),
 o1 20 (mvS 5),
 o1 21 (fdS 0 3),
 o1 22 (ldS 72 0 21),
 o1 23 (fdS 1 3),
 o1 24 (ldS 72 1 23),
 o1 25 (.call 52 [(false, .s 24)] [] []),
 o1 26 (.build [.sc (.int .i64 0), .row false (.ruint8 [])] [(0, 1, .s 22), (1, 1, .s 25)]),
 o1 27 (.bslice 74 1 [(0, 2, .s 26)]),
 o1 28 (.call 75 [(true, .s 19), (false, .s 20), (false, .s 27)] [] []),
 o1 0 (.ufrz (.s 28))]
def g60_3 : LS := [o1 7 (.unew (.un none (.rPiece [])))]
def i60_6 : CW := .seq (.fin (.reg g60_0) [1, 4] []) (.seq (.fin (.reg g60_1) [6, 11, 12, 13, 14, 15, 16, 17] []) (.seq (.fin (.reg g60_2) [3, 5, 18, 19, 20, 21, 22, 23, 24, 25, 26, 27, 28] [(72, 2)]) (.seq (.reg g60_3) (.seq (.skip) i60_5))))
def fn60 : IFn2 RW := ⟨60, 2, 72, 80, [(72, 2), (75, 2)], [], [], [.slot 4], i60_6⟩
def g1050_0 : LS := [o1 5 (.box 45 2 false (.s 0))]
def g1050_1 : LS := [o0 (.store 43 0 1 false 1 (.k (.sc (.bool true))))]
def g1050_2 : LS := [o1 6 (fdS 2 2),
 o1 7 (ldS 23 2 6),
 o1 8 (fdS 0 5),
 o1 9 (ldS 45 0 8),
 o1 10 (ldS 41 0 3),
 o1 11 (fdS 0 5),
 o1 12 (ldS 45 0 11),
 o1 13 (ldS 39 0 4),
 o1 14 (bnS .sub 12 13),
 o1 15 (fdS 1 5),
 o1 16 (ldS 45 1 15),
 o1 17 (ldS 39 0 4),
 o1 18 (bnS .sub 16 17),
 o1 19 (.slice 1 (.s 10) (some (.s 14)) (some (.s 18)) none),
 o1 20 (.build [.sc (.int .i64 0), .row false (.ruint8 [])] [(0, 1, .s 9), (1, 1, .s 19)]),
 o1 21 (.call 60 [(false, .s 7), (false, .s 20)] [] []),
 o1 22 (fdS 2 2),
 o0 (.store 23 2 1 true 22 (.s 21))]
def i1050_0 : CW := .seq (.fin (.reg g1050_0) [0] []) (.seq (.fin (.reg g1050_1) [1] []) (.fin (.reg g1050_2) [2, 3, 4, 5, 6, 7, 8, 9, 10, 11, 12, 13, 14, 15, 16, 17, 18, 19, 20, 21, 22] [(45, 2)]))
def fn1050 : IFn2 RW := ⟨59, 5, 23, 48, [(23, 15), (39, 1), (41, 1), (43, 1), (45, 2)], [(23, 15), (39, 1), (41, 1), (43, 1)], [], [], i1050_0⟩
def g34_6 : LS := [o1 10 (.alloc 150 [.sc (.int .i64 0), .sc (.int .i64 0)]),
 o0 (.store 150 0 2 false 10 (.s 32))]
def i34_0 : CW := .fin (.reg g34_6) [32] []
def g34_7 : LS := [o1 33 (.load 148 0 1 false true 9),
 o1 34 (.load 150 0 2 true false 10),
 o1 35 (.bslice 78 1 [(0, 2, .s 34)]),
 o1 36 (.app 2 16 true (.s 33) (.s 35)),
 o0 (.store 148 0 1 true 9 (.s 36))]
def i34_1 : CW := .blk 1 (.fin (.reg g34_7) [10, 33, 34, 35, 36] [(150, 2)])
def i34_2 : CW := .seq (.fin (.reg g34_6) [32] []) (.blk 1 (.fin (.reg g34_7) [10, 33, 34, 35, 36] [(150, 2)]))
def g34_1000 : LS := [o1 5 (fdS 2 1),
 o1 6 (ldS 158 2 5),
 o1 7 (lnS 6),
 o1 8 (.mv false (.k (.sc (.int .i64 0))))]
def g34_1001 : LS := [o1 9 (bnS .lss 8 7)]
def g34_1002 : LS := [o1 10 (ixS 2 6 8),
 o1 11 (.loade 2 true 10),
 o1 4 (.alloc 174 [.sc (.int .i64 0), .row false (.ruint8 [])]),
 o0 (.store 174 0 2 false 4 (.s 11))]
def g34_10031 : LS := [o1 12 (mvS 0),
 o1 13 (.load 174 0 2 true false 4),
 o1 14 (.call 71 [(false, .s 13)] [] [])]
def g34_10032 : LS := [o1 16 (ntS 15)]
def g34_1004 : LS := [o1 17 (.bin .add (.s 8) (.k (.sc (.int .i64 1)))),
 o1 8 (mvS 17)]
def i34_3 : CW := .seq (.fin (.reg g34_1000) [1, 5] []) (.blk 0 (.loop (.seq (.reg g34_1001) (.seq (.fin (.cond (.s 9) (.skip) (.clr [0, 6, 7, 8, 9] [] (.exit 0))) [9] []) (.seq (.blk 1 (.seq (.fin (.reg g34_1002) [10, 11] []) (.seq (.fin (.yreg g34_10031 (.s 12) [.s 14] none 15 g34_10032) [4, 12, 13, 14, 15] [(174, 2)]) (.fin (.cond (.s 16) (.clr [0, 6, 7, 8, 16] [] (.ret)) (.skip)) [16] [])))) (.fin (.reg g34_1004) [17] []))))))
def i34_4 : CW := .fin (.yreg g34_10031 (.s 12) [.s 14] none 15 g34_10032) [4, 12, 13, 14, 15] [(174, 2)]
def i34_5 : CW := .fin (.cond (.s 16) (.clr [0, 6, 7, 8, 16] [] (.ret)) (.skip)) [16] []
def i34_6 : CW := .seq i34_4 i34_5
def i34_7 : CW := .seq (.fin (.reg g34_1002) [10, 11] []) i34_6
def i34_8 : CW := .blk 1 i34_7
def i34_9 : CW := .fin (.reg g34_1004) [17] []
def i34_10 : CW := .seq i34_8 i34_9
def i34_11 : CW := .seq (.reg g34_1001) (.seq (.fin (.cond (.s 9) (.skip) (.clr [0, 6, 7, 8, 9] [] (.exit 0))) [9] []) i34_10)
def i34_12 : CW := .loop i34_11
def i34_13 : CW := .blk 0 i34_12
def i34_14 : CW := .fin (.rfn (.s 31) 70 7 18 [32] i34_3 i34_0 i34_1 [112, 128, 130, 132, 148, 158] [112, 128, 130, 132, 148, 158, 174]) [31] [(158, 15)]
def i34_15 : CW := .blk 0 i34_14
def g34_5 : LS := [o1 30 (.load 112 0 15 true false 3),
 o1 31 (.call 55 [(false, .s 30)] [] [(4, 15, 158)])]
def i34_16 : CW := .seq (.fin (.reg g34_5) [30] []) i34_15
def g34_13 : LS := [o1 52 (bnS .lss 51 50)]
def g34_14 : LS := [o1 53 (ixS 2 49 51),
 o1 54 (.loade 2 true 53),
 o1 15 (.alloc 155 [.sc (.int .i64 0), .sc (.int .i64 0)]),
 o0 (.store 155 0 2 false 15 (.s 54))]
def g34_15 : LS := [o1 55 (mvS 12),
 o1 56 (.load 155 0 2 true false 15),
 o1 57 (.callv (.s 55) 59 1050 [(false, .s 56)] [(112, 15, 23), (128, 1, 39), (130, 1, 41), (153, 1, 43)] [])]
def g34_16 : LS := [o1 58 (.bin .add (.s 51) (.k (.sc (.int .i64 1)))),
 o1 51 (mvS 58)]
def i34_17 : CW := .seq (.reg g34_13) (.seq (.fin (.cond (.s 52) (.skip) (.clr [12, 49, 50, 51, 52] [(128, 1), (130, 1)] (.exit 2))) [52] []) (.seq (.blk 3 (.seq (.fin (.reg g34_14) [53, 54] []) (.fin (.reg g34_15) [15, 55, 56, 57] [(155, 2)]))) (.fin (.reg g34_16) [58] [])))
def i34_18 : CW := .loop i34_17
def i34_19 : CW := .blk 2 i34_18
def g34_12 : LS := [o1 45 (ldS 148 0 9),
 o1 46 (mvS 13),
 o1 47 (mvS 8),
 o1 48 (.build [.sc (.int .i64 0), .sc (.int .i64 0)] [(0, 1, .s 46), (1, 1, .s 47)]),
 o1 49 (.call 61 [(false, .s 45), (false, .s 48)] [] []),
 o1 50 (lnS 49),
 o1 51 (.mv false (.k (.sc (.int .i64 0))))]
def i34_20 : CW := .seq (.fin (.reg g34_12) [8, 9, 13, 44, 45, 46, 47, 48] [(148, 1)]) i34_19
def i34_21 : CW := .skip
def i34_22 : CW := .fin (.cond (.s 44) i34_20 i34_21) [8, 9, 12, 13, 44] [(128, 1), (130, 1), (148, 1)]
def g34_10 : LS := [o1 38 (ldS 128 0 4),
 o1 39 (fdS 0 3),
 o1 40 (ldS 112 0 39),
 o1 41 (.mnmx true [.s 38, .s 40]),
 o1 13 (mvS 41)]
def g34_11 : LS := [o1 42 (mvS 13),
 o1 43 (mvS 8),
 o1 44 (bnS .lss 42 43)]
def i34_23 : CW := .seq (.fin (.reg g34_10) [4, 38, 39, 40, 41] []) (.seq (.fin (.reg g34_11) [42, 43] []) i34_22)
def g34_17 : LS := [o1 59 (fdS 2 3),
 o1 60 (ldS 112 2 59),
 o1 61 (lnS 60),
 o1 62 (.bin .gtr (.s 61) (.k (.sc (.int .i64 0)))),
 o2 63 (mvS 62),
 o3 64 63 true (fdS 2 3),
 o3 65 63 true (ldS 112 2 64),
 o3 66 63 true (.idx 2 (.s 65) (.k (.sc (.int .i64 0)))),
 o3 67 63 true (fdS 0 66),
 o3 68 63 true (.loade 1 false 67),
 o3 69 63 true (fdS 0 3),
 o3 70 63 true (ldS 112 0 69),
 o3 71 63 true (bnS .eql 68 70),
 o1 72 (.pick (.s 63) (.s 71) (.k (.sc (.bool false))))]
def g34_18 : LS := [o1 73 (fdS 1 3),
 o1 74 (.load 112 1 1 false true 73),
 o1 75 (fdS 2 3),
 o1 76 (ldS 112 2 75),
 o1 77 (.idx 2 (.s 76) (.k (.sc (.int .i64 0)))),
 o1 78 (fdS 1 77),
 o1 79 (.loade 1 false 78),
 o1 80 (.app 1 1 true (.s 74) (.s 79)),
 o1 81 (fdS 1 3),
 o0 (.store 112 1 1 true 81 (.s 80))]
def g34_19 : LS := [o1 82 (fdS 0 3),
 o1 83 (ldS 112 0 82),
 o1 84 (fdS 2 3),
 o1 85 (ldS 112 2 84),
 o1 86 (.idx 2 (.s 85) (.k (.sc (.int .i64 0)))),
 o1 87 (fdS 1 86),
 o1 88 (.loade 1 false 87),
 o1 89 (lnS 88),
 o1 90 (bnS .add 83 89),
 o1 91 (fdS 0 3),
 o0 (.store 112 0 1 false 91 (.s 90))]
def g34_20 : LS := [o1 92 (fdS 2 3),
 o1 93 (ldS 112 2 92),
 o1 94 (.slice 2 (.s 93) (some (.k (.sc (.int .i64 1)))) none none),
 o1 95 (fdS 2 3),
 o0 (.store 112 2 1 true 95 (.s 94))]
def i34_24 : CW := .seq (.seq (.fin (.reg g34_17) [59, 60, 61, 62, 63, 64, 65, 66, 67, 68, 69, 70, 71] []) (.fin (.cond (.s 72) i34_21 (.clr [72] [] (.exit 4))) [72] [])) (.blk 5 (.seq (.fin (.reg g34_18) [73, 74, 75, 76, 77, 78, 79, 80, 81] []) (.seq (.fin (.reg g34_19) [82, 83, 84, 85, 86, 87, 88, 89, 90, 91] []) (.fin (.reg g34_20) [92, 93, 94, 95] []))))
def i34_25 : CW := .loop i34_24
def i34_26 : CW := .wk [115] i34_25
def i34_27 : CW := .blk 4 i34_26
def g34_21 : LS := [o1 96 (.load 112 0 15 true true 3),
 o1 97 (ldS 153 0 11),
 o0 (.store 132 0 15 true 6 (.s 96)),
 o1 7 (mvS 97)]
def i34_28 : CW := .seq (.fin (.reg g34_21) [3, 11, 96, 97] [(112, 15), (153, 1)]) (.ret)
def i34_29 : CW := .seq i34_27 i34_28
def i34_30 : CW := .seq i34_23 i34_29
def g34_8 : LS := [o1 11 (.alloc 153 [.sc (.bool false)]),
 o0 (.store 153 0 1 false 11 (.k (.sc (.bool false))))]
def g34_9 : LS := [o1 37 (.mkclo 59 [.s 11, .s 3, .s 5, .s 4]),
 o1 12 (mvS 37)]
def i34_31 : CW := .seq (.reg g34_8) (.seq (.fin (.reg g34_9) [5, 37] []) i34_30)
def i34_32 : CW := .seq i34_16 i34_31
def g34_0 : LS := [o1 3 (.box 112 15 true (.s 0)),
 o1 4 (.box 128 1 false (.s 1)),
 o1 5 (.box 130 1 false (.s 2)),
 o1 6 (.alloc 132 [.sc (.int .i64 0), .row true (.ruint8 []), .row true (.rPiece []), .sc (.int .i64 0), .sc (.int .i64 0), .sc (.int .i64 0), .sc (.int .u32 0), .sc (.bool false), .sc (.bool false), .sc (.int .i64 0), .sc (.bool false), .row true (.rSpan []), .sc (.int .u32 0), .sc (.int .u32 0), .sc (.bool false)]),
 o1 7 (.mv false (.k (.sc (.bool false))))]
def g34_1 : LS := [o1 16 (ldS 128 0 4),
 o1 17 (ldS 130 0 5),
 o1 18 (lnS 17),
 o1 19 (bnS .add 16 18),
 o1 20 (.load 112 0 15 true false 3),
 o1 21 (.call 53 [(false, .s 20)] [] []),
 o1 22 (.mnmx false [.s 19, .s 21]),
 o1 8 (mvS 22)]
def g34_2 : LS := [o1 23 (fdS 9 3),
 o1 24 (ldS 112 9 23),
 o1 25 (.bin .geq (.s 24) (.k (.sc (.int .i64 0))))]
def g34_3 : LS := [o1 26 (mvS 8),
 o1 27 (fdS 9 3),
 o1 28 (ldS 112 9 27),
 o1 29 (.mnmx false [.s 26, .s 28]),
 o1 8 (mvS 29)]
def g34_4 : LS := [o1 9 (.alloc 148 [.row true (.rSpan [])])]
def i34_33 : CW := .seq (.fin (.reg g34_0) [0, 1, 2, 7] []) (.seq (.fin (.reg g34_1) [16, 17, 18, 19, 20, 21, 22] []) (.seq (.seq (.fin (.reg g34_2) [23, 24] []) (.fin (.cond (.s 25) (.fin (.reg g34_3) [25, 26, 27, 28, 29] []) i34_21) [25] [])) (.seq (.reg g34_4) i34_32)))
def fn34 : IFn2 RW := ⟨34, 3, 98, 192, [(112, 15), (128, 1), (130, 1), (132, 15), (148, 1), (150, 2), (153, 1), (155, 2), (158, 15), (174, 2)], [], [], [.cell 6 132 15 true, .slot 7], i34_33⟩
def g1059_0 : LS := [o1 2 (.box 19 2 false (.s 0)),
 o1 3 (.mv false (.k (.sc (.bool false))))]
def g1059_1 : LS := [o1 4 (fdS 0 2),
 o1 5 (ldS 19 0 4),
 o1 6 (fdS 0 1),
 o1 7 (ldS 16 0 6),
 o1 8 (bnS .leq 5 7),
 o2 9 (mvS 8),
 o3 10 9 true (fdS 1 1),
 o3 11 9 true (ldS 16 1 10),
 o3 12 9 true (fdS 1 2),
 o3 13 9 true (ldS 19 1 12),
 o3 14 9 true (bnS .leq 11 13),
 o1 15 (.pick (.s 9) (.s 14) (.k (.sc (.bool false)))),
 o1 3 (mvS 15)]
def i1059_0 : CW := .seq (.fin (.reg g1059_0) [0, 3] []) (.seq (.fin (.reg g1059_1) [1, 2, 4, 5, 6, 7, 8, 9, 10, 11, 12, 13, 14, 15] [(19, 2)]) (.ret))
def fn1059 : IFn2 RW := ⟨63, 2, 16, 32, [(16, 2), (19, 2)], [(16, 2)], [], [.slot 3], i1059_0⟩
def g1058_2 : LS := [o1 9 (bnS .lss 8 7)]
def g1058_3 : LS := [o1 10 (mvS 8),
 o1 5 (mvS 10)]
def g1058_4 : LS := [o1 11 (mvS 1),
 o1 12 (mvS 0),
 o1 13 (mvS 5),
 o1 14 (ixS 2 12 13),
 o1 15 (.loade 2 true 14),
 o1 16 (.callv (.s 11) 63 1059 [(false, .s 15)] [(19, 2, 16)] [])]
def g1058_5 : LS := [o1 17 (mvS 5),
 o1 4 (mvS 17)]
def g1058_6 : LS := [o1 18 (.bin .add (.s 8) (.k (.sc (.int .i64 1)))),
 o1 8 (mvS 18)]
def i1058_0 : CW := .seq (.reg g1058_2) (.seq (.fin (.cond (.s 9) (.skip) (.clr [0, 1, 7, 8, 9] [] (.exit 0))) [9] []) (.seq (.blk 1 (.seq (.fin (.reg g1058_3) [10] []) (.seq (.fin (.reg g1058_4) [11, 12, 13, 14, 15] []) (.fin (.cond (.s 16) (.seq (.fin (.reg g1058_5) [0, 1, 5, 7, 8, 16, 17] []) (.ret)) (.skip)) [5, 16] [])))) (.fin (.reg g1058_6) [18] [])))
def i1058_1 : CW := .loop i1058_0
def i1058_2 : CW := .blk 0 i1058_1
def g1058_1 : LS := [o1 6 (mvS 0),
 o1 7 (lnS 6),
 o1 8 (.mv false (.k (.sc (.int .i64 0))))]
def i1058_3 : CW := .seq (.fin (.reg g1058_1) [6] []) i1058_2
def g1058_7 : LS := [o1 4 (.mv false (.k (.sc (.int .i64 (-1)))))]
def i1058_4 : CW := .seq (.reg g1058_7) (.ret)
def i1058_5 : CW := .seq i1058_3 i1058_4
def g1058_0 : LS := [o1 4 (.mv false (.k (.sc (.int .i64 0))))]
def i1058_6 : CW := .seq (.fin (.reg g1058_0) [4] []) i1058_5
def fn1058 : IFn2 RW := ⟨62, 2, 19, 32, [(19, 2)], [(19, 2)], [], [.slot 4], i1058_6⟩
def g35_4 : LS := [o1 22 (mvS 9),
 o1 23 (.bin .geq (.s 22) (.k (.sc (.int .i64 0))))]
def g35_6 : LS := [o1 26 (mvS 7),
 o1 27 (mvS 9),
 o1 28 (ixS 2 26 27),
 o1 29 (fdS 0 28),
 o1 30 (.loade 1 false 29),
 o1 31 (mvS 1),
 o1 32 (mvS 2),
 o1 33 (lnS 32),
 o1 34 (bnS .add 31 33),
 o1 35 (bnS .lss 30 34),
 o2 36 (mvS 35),
 o3 37 36 true (mvS 7),
 o3 38 36 true (mvS 9),
 o3 39 36 true (ixS 2 37 38),
 o3 40 36 true (fdS 1 39),
 o3 41 36 true (.loade 1 false 40),
 o3 42 36 true (mvS 1),
 o3 43 36 true (bnS .gtr 41 42),
 o1 44 (.pick (.s 36) (.s 43) (.k (.sc (.bool false)))),
 o2 45 (mvS 44),
 o3 46 45 true (mvS 2),
 o3 47 45 true (lnS 46),
 o3 48 45 true (.bin .gtr (.s 47) (.k (.sc (.int .i64 0)))),
 o1 49 (.pick (.s 45) (.s 48) (.k (.sc (.bool false))))]
def g35_7 : LS := [o1 50 (mvS 7),
 o1 51 (mvS 9),
 o1 52 (ixS 2 50 51),
 o1 53 (.loade 2 true 52),
 o1 54 (.bslice 78 1 [(0, 2, .s 53)]),
 o1 55 (mvS 8),
 o1 56 (.app 2 16 true (.s 54) (.s 55)),
 o1 8 (mvS 56)]
def g35_5 : LS := [o1 24 (mvS 9),
 o1 25 (.bin .sub (.s 24) (.k (.sc (.int .i64 1)))),
 o1 9 (mvS 25)]
def i35_0 : CW := .seq (.seq (.fin (.reg g35_4) [22] []) (.fin (.cond (.s 23) (.skip) (.clr [1, 2, 9, 23] [] (.exit 0))) [23] [])) (.seq (.blk 1 (.seq (.fin (.reg g35_6) [26, 27, 28, 29, 30, 31, 32, 33, 34, 35, 36, 37, 38, 39, 40, 41, 42, 43, 44, 45, 46, 47, 48] []) (.fin (.cond (.s 49) (.seq (.fin (.reg g35_7) [1, 2, 9, 49, 50, 51, 52, 53, 54, 55, 56] []) (.exit 0)) (.skip)) [49] []))) (.fin (.reg g35_5) [24, 25] []))
def i35_1 : CW := .loop i35_0
def i35_2 : CW := .blk 0 i35_1
def g35_3 : LS := [o1 19 (mvS 7),
 o1 20 (lnS 19),
 o1 21 (.bin .sub (.s 20) (.k (.sc (.int .i64 1)))),
 o1 9 (mvS 21)]
def i35_3 : CW := .seq (.fin (.reg g35_3) [19, 20, 21] []) i35_2
def g35_10 : LS := [o1 60 (bnS .lss 59 58)]
def g35_11 : LS := [o1 61 (ixS 2 57 59),
 o1 62 (.loade 2 true 61),
 o1 12 (.alloc 102 [.sc (.int .i64 0), .sc (.int .i64 0)]),
 o0 (.store 102 0 2 false 12 (.s 62))]
def g35_12 : LS := [o1 63 (mvS 7),
 o1 64 (.mkclo 63 [.s 12]),
 o1 65 (.call 1058 [(false, .s 63), (false, .s 64)] [(102, 2, 19)] []),
 o1 13 (mvS 65)]
def g35_13 : LS := [o1 66 (mvS 13),
 o1 67 (.bin .geq (.s 66) (.k (.sc (.int .i64 0)))),
 o2 68 (mvS 67),
 o3 69 68 true (mvS 10),
 o3 70 68 true (mvS 7),
 o3 71 68 true (mvS 13),
 o3 72 68 true (ixS 2 70 71),
 o3 73 68 true (.loade 2 true 72),
 o3 74 68 true (.call 56 [(false, .s 69), (false, .s 73)] [] []),
 o3 75 68 true (ntS 74),
 o1 76 (.pick (.s 68) (.s 75) (.k (.sc (.bool false))))]
def g35_14 : LS := [o1 77 (.mv true (.s 10)),
 o1 78 (mvS 7),
 o1 79 (mvS 13),
 o1 80 (ixS 2 78 79),
 o1 81 (.loade 2 true 80),
 o1 82 (.bslice 78 1 [(0, 2, .s 81)]),
 o1 83 (.app 2 16 true (.s 77) (.s 82)),
 o1 10 (.mv true (.s 83))]
def g35_15 : LS := [o1 84 (.bin .add (.s 59) (.k (.sc (.int .i64 1)))),
 o1 59 (mvS 84)]
def i35_4 : CW := .seq (.reg g35_10) (.seq (.fin (.cond (.s 60) (.skip) (.clr [7, 57, 58, 59, 60] [] (.exit 2))) [60] []) (.seq (.blk 3 (.seq (.fin (.reg g35_11) [61, 62] []) (.seq (.fin (.reg g35_12) [12, 63, 64, 65] [(102, 2)]) (.seq (.fin (.reg g35_13) [66, 67, 68, 69, 70, 71, 72, 73, 74, 75] []) (.fin (.cond (.s 76) (.fin (.reg g35_14) [13, 76, 77, 78, 79, 80, 81, 82, 83] []) (.skip)) [13, 76] []))))) (.fin (.reg g35_15) [84] [])))
def i35_5 : CW := .loop i35_4
def i35_6 : CW := .blk 2 i35_5
def g35_9 : LS := [o1 57 (mvS 8),
 o1 58 (lnS 57),
 o1 59 (.mv false (.k (.sc (.int .i64 0))))]
def i35_7 : CW := .seq (.fin (.reg g35_9) [8] []) i35_6
def g35_16 : LS := [o1 85 (.mv true (.s 10)),
 o1 6 (.mv true (.s 85))]
def i35_8 : CW := .seq (.fin (.reg g35_16) [10, 85] []) (.ret)
def i35_9 : CW := .seq i35_7 i35_8
def g35_8 : LS := [o1 10 (.mv true (.k (.row true (.rSpan []))))]
def i35_10 : CW := .seq (.reg g35_8) i35_9
def i35_11 : CW := .seq i35_3 i35_10
def g35_0 : LS := [o1 3 (.box 86 15 false (.s 0)),
 o1 6 (.mv true (.k (.row true (.rSpan []))))]
def g35_1 : LS := [o1 14 (.load 86 0 15 true false 3),
 o1 15 (.call 55 [(false, .s 14)] [] [(4, 15, 105)]),
 o1 16 (.call 1007 [(false, .s 15)] [(105, 15, 5)] []),
 o1 7 (mvS 16)]
def g35_2 : LS := [o1 17 (fdS 11 3),
 o1 18 (ldS 86 11 17),
 o1 8 (mvS 18)]
def i35_12 : CW := .seq (.fin (.reg g35_0) [0, 6] []) (.seq (.fin (.reg g35_1) [14, 15, 16] [(105, 15)]) (.seq (.fin (.reg g35_2) [3, 17, 18] [(86, 15)]) i35_11))
def fn35 : IFn2 RW := ⟨35, 3, 86, 128, [(86, 15), (102, 2), (105, 15)], [], [], [.slot 6], i35_12⟩
def g12_21 : LS := [o1 133 (.load 140 0 15 true false 2),
 o1 134 (.mv true (.s 13)),
 o1 135 (.call 32 [(false, .s 133), (true, .s 134)] [] []),
 o1 132 (.mv true (.s 135)),
 o1 136 (.ext true 0 (.s 132)),
 o1 137 (.ext false 1 (.s 132)),
 o1 14 (.alloc 236 [.sc (.int .i64 0), .sc (.int .i64 0), .sc (.int .u32 0), .sc (.int .u32 0), .sc (.int .i64 0), .sc (.int .i64 0), .sc (.int .i64 0), .sc (.int .i64 0), .sc (.int .i64 0), .sc (.bool false), .sc (.bool false), .sc (.int .u32 0), .sc (.int .u32 0), .row false (.rBlock []), .row false (.ruint8 [])]),
 o0 (.store 140 0 15 true 2 (.s 136)),
 o0 (.store 236 0 15 false 14 (.s 137))]
def g12_22 : LS := [o1 138 (.load 140 0 15 true false 2),
 o1 139 (.load 236 0 15 true false 14),
 o0 (.store 172 0 15 false 4 (.s 138)),
 o0 (.store 188 0 15 false 5 (.s 139)),
 o1 6 (.mv false (.k (.sc (.bool true)))),
 o1 7 (.mv false (.k (.sc (.int .i64 0))))]
def i12_0 : CW := .seq (.fin (.reg g12_21) [13, 132, 133, 134, 135, 136, 137] []) (.seq (.fin (.reg g12_22) [2, 14, 138, 139] [(140, 15), (236, 15)]) (.wk [6, 7] (.ret)))
def g12_19 : LS := [o1 106 (fdS 8 2),
 o1 107 (ldS 140 8 106),
 o2 108 (mvS 107),
 o3 109 108 true (fdS 14 3),
 o3 110 108 true (ldS 156 14 109),
 o3 111 108 true (lnS 110),
 o3 112 108 true (.bin .gtr (.s 111) (.k (.sc (.int .i64 0)))),
 o1 113 (.pick (.s 108) (.s 112) (.k (.sc (.bool false)))),
 o2 114 (mvS 113),
 o3 115 114 true (mvS 9),
 o3 116 114 true (.bin .geq (.s 115) (.k (.sc (.int .i64 0)))),
 o1 117 (.pick (.s 114) (.s 116) (.k (.sc (.bool false)))),
 o2 118 (mvS 117),
 o3 119 118 true (mvS 12),
 o3 120 118 true (ntS 119),
 o1 121 (.pick (.s 118) (.s 120) (.k (.sc (.bool false))))]
def g12_20 : LS := [o1 122 (fdS 2 3),
 o1 123 (ldS 156 2 122),
 o1 124 (fdS 2 3),
 o1 125 (ldS 156 2 124),
 o1 126 (fdS 14 3),
 o1 127 (ldS 156 14 126),
 o1 128 (lnS 127),
 o1 129 (.call 36 [(false, .s 125), (false, .s 128)] [] []),
 o1 130 (.build [.sc (.int .u32 0), .sc (.int .u32 0)] [(0, 1, .s 123), (1, 1, .s 129)]),
 o1 131 (.bslice 62 1 [(0, 2, .s 130)]),
 o1 13 (.mv true (.s 131))]
def i12_1 : CW := .seq (.seq (.fin (.reg g12_19) [9, 12, 106, 107, 108, 109, 110, 111, 112, 113, 114, 115, 116, 117, 118, 119, 120] []) (.fin (.cond (.s 121) (.fin (.reg g12_20) [3, 121, 122, 123, 124, 125, 126, 127, 128, 129, 130, 131] [(156, 15)]) (.skip)) [3, 121] [(156, 15)])) i12_0
def g12_17 : LS := [o1 100 (.load 140 0 15 true false 2),
 o1 101 (mvS 9),
 o1 102 (fdS 14 3),
 o1 103 (ldS 156 14 102),
 o1 104 (.call 35 [(false, .s 100), (false, .s 101), (false, .s 103)] [] []),
 o1 105 (fdS 11 2),
 o0 (.store 140 11 1 true 105 (.s 104))]
def g12_18 : LS := [o1 13 (.mv true (.k (.row true (.rBlock []))))]
def i12_2 : CW := .seq (.fin (.reg g12_17) [100, 101, 102, 103, 104, 105] []) (.seq (.reg g12_18) i12_1)
def g12_13 : LS := [o1 74 (fdS 4 3),
 o1 75 (ldS 156 4 74),
 o1 76 (.bin .and (.s 75) (.k (.sc (.int .i64 1)))),
 o1 77 (.bin .gtr (.s 76) (.k (.sc (.int .i64 0))))]
def g12_14 : LS := [o1 78 (.load 140 0 15 true false 2),
 o1 79 (mvS 9),
 o1 80 (fdS 14 3),
 o1 81 (ldS 156 14 80),
 o1 82 (lnS 81),
 o1 83 (bnS .add 79 82),
 o1 84 (.call 33 [(false, .s 78), (false, .s 83)] [] []),
 o1 85 (fdS 9 2),
 o0 (.store 140 9 1 false 85 (.s 84))]
def g12_15 : LS := [o1 87 (.load 140 0 15 true true 2),
 o1 88 (mvS 9),
 o1 89 (fdS 14 3),
 o1 90 (ldS 156 14 89),
 o1 91 (.call 34 [(true, .s 87), (false, .s 88), (false, .s 90)] [] []),
 o1 86 (.mv true (.s 91)),
 o1 92 (.ext true 0 (.s 86)),
 o1 93 (.ext false 1 (.s 86)),
 o0 (.store 140 0 15 true 2 (.s 92)),
 o1 12 (mvS 93)]
def g12_16 : LS := [o1 94 (fdS 9 2),
 o1 95 (ldS 140 9 94),
 o1 96 (fdS 0 2),
 o1 97 (ldS 140 0 96),
 o1 98 (bnS .eql 95 97),
 o1 99 (fdS 10 2),
 o0 (.store 140 10 1 false 99 (.s 98))]
def i12_3 : CW := .seq (.seq (.fin (.reg g12_13) [74, 75, 76] []) (.fin (.cond (.s 77) (.fin (.reg g12_14) [77, 78, 79, 80, 81, 82, 83, 84, 85] []) (.skip)) [77] [])) (.seq (.fin (.reg g12_15) [86, 87, 88, 89, 90, 91, 92, 93] []) (.seq (.fin (.reg g12_16) [94, 95, 96, 97, 98, 99] []) i12_2))
def g12_11 : LS := [o1 62 (fdS 7 2),
 o1 63 (ldS 140 7 62),
 o2 64 (mvS 63),
 o3 65 64 true (mvS 9),
 o3 66 64 true (fdS 0 2),
 o3 67 64 true (ldS 140 0 66),
 o3 68 64 true (bnS .leq 65 67),
 o1 69 (.pick (.s 64) (.s 68) (.k (.sc (.bool false))))]
def g12_12 : LS := [o1 70 (fdS 11 3),
 o1 71 (ldS 156 11 70),
 o1 72 (fdS 6 2),
 o0 (.store 140 6 1 false 72 (.s 71)),
 o1 73 (fdS 14 2),
 o0 (.store 140 14 1 false 73 (.k (.sc (.bool true))))]
def i12_4 : CW := .seq (.seq (.fin (.reg g12_11) [62, 63, 64, 65, 66, 67, 68] []) (.fin (.cond (.s 69) (.fin (.reg g12_12) [69, 70, 71, 72, 73] []) (.skip)) [69] [])) i12_3
def g12_8 : LS := [o1 41 (fdS 7 2),
 o1 42 (ldS 140 7 41),
 o2 43 (mvS 42),
 o3 44 43 true (fdS 14 2),
 o3 45 43 true (ldS 140 14 44),
 o1 46 (.pick (.s 43) (.s 45) (.k (.sc (.bool false)))),
 o2 47 (mvS 46),
 o3 48 47 true (fdS 6 2),
 o3 49 47 true (ldS 140 6 48),
 o3 50 47 true (fdS 11 3),
 o3 51 47 true (ldS 156 11 50),
 o3 52 47 true (.call 31 [(false, .s 49), (false, .s 51)] [] []),
 o3 53 47 true (.bin .lss (.s 52) (.k (.sc (.int .i64 0)))),
 o1 54 (.pick (.s 47) (.s 53) (.k (.sc (.bool false))))]
def g12_9 : LS := [o1 56 (.load 140 0 15 true false 2),
 o1 57 (.call 32 [(false, .s 56), (true, .k (.row true (.rBlock [])))] [] []),
 o1 55 (mvS 57),
 o1 58 (.ext false 0 (.s 55)),
 o1 59 (.ext false 1 (.s 55)),
 o1 10 (.alloc 204 [.sc (.int .i64 0), .row false (.ruint8 []), .row false (.rPiece []), .sc (.int .i64 0), .sc (.int .i64 0), .sc (.int .i64 0), .sc (.int .u32 0), .sc (.bool false), .sc (.bool false), .sc (.int .i64 0), .sc (.bool false), .row false (.rSpan []), .sc (.int .u32 0), .sc (.int .u32 0), .sc (.bool false)]),
 o1 11 (.alloc 220 [.sc (.int .i64 0), .sc (.int .i64 0), .sc (.int .u32 0), .sc (.int .u32 0), .sc (.int .i64 0), .sc (.int .i64 0), .sc (.int .i64 0), .sc (.int .i64 0), .sc (.int .i64 0), .sc (.bool false), .sc (.bool false), .sc (.int .u32 0), .sc (.int .u32 0), .row false (.rBlock []), .row false (.ruint8 [])]),
 o0 (.store 204 0 15 false 10 (.s 58)),
 o0 (.store 220 0 15 false 11 (.s 59))]
def g12_10 : LS := [o1 60 (.load 204 0 15 true false 10),
 o1 61 (.load 220 0 15 true false 11),
 o0 (.store 172 0 15 false 4 (.s 60)),
 o0 (.store 188 0 15 false 5 (.s 61)),
 o1 6 (.mv false (.k (.sc (.bool true)))),
 o1 7 (.mv false (.k (.sc (.int .i64 0))))]
def i12_5 : CW := .seq (.seq (.fin (.reg g12_8) [41, 42, 43, 44, 45, 46, 47, 48, 49, 50, 51, 52, 53] []) (.fin (.cond (.s 54) (.seq (.fin (.reg g12_9) [2, 3, 9, 54, 55, 56, 57, 58, 59] [(140, 15), (156, 15)]) (.seq (.fin (.reg g12_10) [10, 11, 60, 61] [(204, 15), (220, 15)]) (.wk [6, 7] (.ret)))) (.skip)) [54] [])) i12_4
def g12_0 : LS := [o1 2 (.box 140 15 true (.s 0)),
 o1 3 (.box 156 15 false (.s 1)),
 o1 4 (.alloc 172 [.sc (.int .i64 0), .row false (.ruint8 []), .row false (.rPiece []), .sc (.int .i64 0), .sc (.int .i64 0), .sc (.int .i64 0), .sc (.int .u32 0), .sc (.bool false), .sc (.bool false), .sc (.int .i64 0), .sc (.bool false), .row false (.rSpan []), .sc (.int .u32 0), .sc (.int .u32 0), .sc (.bool false)]),
 o1 5 (.alloc 188 [.sc (.int .i64 0), .sc (.int .i64 0), .sc (.int .u32 0), .sc (.int .u32 0), .sc (.int .i64 0), .sc (.int .i64 0), .sc (.int .i64 0), .sc (.int .i64 0), .sc (.int .i64 0), .sc (.bool false), .sc (.bool false), .sc (.int .u32 0), .sc (.int .u32 0), .row false (.rBlock []), .row false (.ruint8 [])]),
 o1 6 (.mv false (.k (.sc (.bool false)))),
 o1 7 (.mv false (.k (.sc (.int .i64 0))))]
def g12_1 : LS := [o1 15 (.load 140 0 15 true false 2),
 o1 16 (.call 10 [(false, .s 15)] [] []),
 o1 8 (mvS 16)]
def g12_2 : LS := [o1 17 (mvS 8),
 o1 18 (.bin .neq (.s 17) (.k (.sc (.int .i64 0))))]
def g12_3 : LS := [o1 19 (.build [.sc (.int .i64 0), .row false (.ruint8 []), .row false (.rPiece []), .sc (.int .i64 0), .sc (.int .i64 0), .sc (.int .i64 0), .sc (.int .u32 0), .sc (.bool false), .sc (.bool false), .sc (.int .i64 0), .sc (.bool false), .row false (.rSpan []), .sc (.int .u32 0), .sc (.int .u32 0), .sc (.bool false)] []),
 o1 20 (.build [.sc (.int .i64 0), .sc (.int .i64 0), .sc (.int .u32 0), .sc (.int .u32 0), .sc (.int .i64 0), .sc (.int .i64 0), .sc (.int .i64 0), .sc (.int .i64 0), .sc (.int .i64 0), .sc (.bool false), .sc (.bool false), .sc (.int .u32 0), .sc (.int .u32 0), .row false (.rBlock []), .row false (.ruint8 [])] []),
 o1 21 (mvS 8),
 o0 (.store 172 0 15 false 4 (.s 19)),
 o0 (.store 188 0 15 false 5 (.s 20)),
 o1 6 (.mv false (.k (.sc (.bool false)))),
 o1 7 (mvS 21)]
def g12_4 : LS := [o1 22 (.load 140 0 15 true false 2),
 o1 23 (.call 29 [(false, .s 22)] [] []),
 o0 (.store 140 0 15 true 2 (.s 23))]
def g12_5 : LS := [o1 24 (fdS 7 2),
 o1 25 (ldS 140 7 24),
 o2 26 (mvS 25),
 o3 27 26 true (fdS 10 3),
 o3 28 26 true (ldS 156 10 27),
 o3 29 26 true (ntS 28),
 o1 30 (.pick (.s 26) (.s 29) (.k (.sc (.bool false))))]
def g12_6 : LS := [o1 31 (.load 140 0 15 true false 2),
 o1 32 (.build [.sc (.int .i64 0), .sc (.int .i64 0), .sc (.int .u32 0), .sc (.int .u32 0), .sc (.int .i64 0), .sc (.int .i64 0), .sc (.int .i64 0), .sc (.int .i64 0), .sc (.int .i64 0), .sc (.bool false), .sc (.bool false), .sc (.int .u32 0), .sc (.int .u32 0), .row false (.rBlock []), .row false (.ruint8 [])] []),
 o0 (.store 172 0 15 false 4 (.s 31)),
 o0 (.store 188 0 15 false 5 (.s 32)),
 o1 6 (.mv false (.k (.sc (.bool false)))),
 o1 7 (.mv false (.k (.sc (.int .i64 0))))]
def g12_7 : LS := [o1 33 (fdS 0 2),
 o1 34 (ldS 140 0 33),
 o1 35 (fdS 2 3),
 o1 36 (ldS 156 2 35),
 o1 37 (fdS 12 2),
 o1 38 (ldS 140 12 37),
 o1 39 (bnS .sub 36 38),
 o1 40 (.call 30 [(false, .s 34), (false, .s 39)] [] []),
 o1 9 (mvS 40)]
def i12_6 : CW := .seq (.fin (.reg g12_0) [0, 1, 6, 7] []) (.seq (.seq (.fin (.reg g12_1) [15, 16] []) (.seq (.fin (.reg g12_2) [17] []) (.fin (.cond (.s 18) (.seq (.fin (.reg g12_3) [2, 3, 8, 18, 19, 20, 21] [(140, 15), (156, 15)]) (.wk [6, 7] (.ret))) (.skip)) [8, 18] []))) (.seq (.fin (.reg g12_4) [22, 23] []) (.seq (.seq (.fin (.reg g12_5) [24, 25, 26, 27, 28, 29] []) (.fin (.cond (.s 30) (.seq (.fin (.reg g12_6) [2, 3, 30, 31, 32] [(140, 15), (156, 15)]) (.wk [6, 7] (.ret))) (.skip)) [30] [])) (.seq (.fin (.reg g12_7) [33, 34, 35, 36, 37, 38, 39, 40] []) i12_5))))
def fn12 : IFn2 RW := ⟨12, 2, 140, 256, [(140, 15), (156, 15), (172, 15), (188, 15), (204, 15), (220, 15), (236, 15)], [], [], [.cell 4 172 15 true, .cell 5 188 15 true, .slot 6, .slot 7], i12_6⟩
def g11_5 : LS := [o1 51 (.call 17 [(false, .k (.sc (.int .i64 0))), (false, .k (.sc (.int .i64 0))), (false, .k (.sc (.int .u32 0))), (false, .k (.sc (.int .u32 0))), (false, .k (.sc (.bool false))), (false, .k (.sc (.bool false)))] [] []),
 o1 50 (mvS 51),
 o1 52 (.ext false 0 (.s 50)),
 o1 53 (.ext false 1 (.s 50)),
 o1 16 (.alloc 236 [.sc (.int .i64 0), .row false (.ruint8 []), .row false (.rPiece []), .sc (.int .i64 0), .sc (.int .i64 0), .sc (.int .i64 0), .sc (.int .u32 0), .sc (.bool false), .sc (.bool false), .sc (.int .i64 0), .sc (.bool false), .row false (.rSpan []), .sc (.int .u32 0), .sc (.int .u32 0), .sc (.bool false)]),
 o0 (.store 236 0 15 false 16 (.s 52)),
 o1 17 (mvS 53)]
def g11_6 : LS := [o1 54 (mvS 2),
 o1 55 (.bin .neq (.s 54) (.k (.sc (.int .i64 0)))),
 o2 56 (mvS 55),
 o3 57 56 false (mvS 6),
 o3 58 56 false (.bin .neq (.s 57) (.k (.sc (.int .i64 0)))),
 o1 59 (.pick (.s 56) (.k (.sc (.bool true))) (.s 58)),
 o2 60 (mvS 59),
 o3 61 60 false (mvS 10),
 o3 62 60 false (.bin .neq (.s 61) (.k (.sc (.int .i64 0)))),
 o1 63 (.pick (.s 60) (.k (.sc (.bool true))) (.s 62)),
 o2 64 (mvS 63),
 o3 65 64 false (mvS 15),
 o3 66 64 false (.bin .neq (.s 65) (.k (.sc (.int .i64 0)))),
 o1 67 (.pick (.s 64) (.k (.sc (.bool true))) (.s 66)),
 o2 68 (mvS 67),
 o3 69 68 false (mvS 5),
 o3 70 68 false (ntS 69),
 o1 71 (.pick (.s 68) (.k (.sc (.bool true))) (.s 70)),
 o2 72 (mvS 71),
 o3 73 72 false (mvS 9),
 o3 74 72 false (ntS 73),
 o1 75 (.pick (.s 72) (.k (.sc (.bool true))) (.s 74)),
 o2 76 (mvS 75),
 o3 77 76 false (mvS 17),
 o3 78 76 false (.bin .neq (.s 77) (.k (.sc (.int .i64 2)))),
 o1 79 (.pick (.s 76) (.k (.sc (.bool true))) (.s 78))]
def g11_7 : LS := [o1 0 (.mv false (.k (.sc (.bool false))))]
def g11_8 : LS := [o1 80 (fdS 3 4),
 o1 81 (ldS 156 3 80),
 o1 82 (.bin .eql (.s 81) (.k (.sc (.int .u32 100)))),
 o2 83 (mvS 82),
 o3 84 83 true (fdS 13 4),
 o3 85 83 true (ldS 156 13 84),
 o3 86 83 true (lnS 85),
 o3 87 83 true (.bin .eql (.s 86) (.k (.sc (.int .i64 1)))),
 o1 88 (.pick (.s 83) (.s 87) (.k (.sc (.bool false)))),
 o2 89 (mvS 88),
 o3 90 89 true (fdS 13 4),
 o3 91 89 true (ldS 156 13 90),
 o3 92 89 true (.idx 2 (.s 91) (.k (.sc (.int .i64 0)))),
 o3 93 89 true (.loade 2 true 92),
 o3 94 89 true (.build [.sc (.int .u32 0), .sc (.int .u32 0)] [(0, 1, .k (.sc (.int .u32 102))), (1, 1, .k (.sc (.int .u32 104)))]),
 o3 95 89 true (.eqs [true, true] false (.s 93) (.s 94)),
 o1 96 (.pick (.s 89) (.s 95) (.k (.sc (.bool false)))),
 o2 97 (mvS 96),
 o3 98 97 true (fdS 3 8),
 o3 99 97 true (ldS 188 3 98),
 o3 100 97 true (.bin .eql (.s 99) (.k (.sc (.int .u32 104)))),
 o1 101 (.pick (.s 97) (.s 100) (.k (.sc (.bool false)))),
 o2 102 (mvS 101),
 o3 103 102 true (fdS 1 7),
 o3 104 102 true (ldS 172 1 103),
 o3 105 102 true (.cstr (.s 104)),
 o3 106 102 true (.eqt false (.s 105) (.k (.sc (.string str_abcd)))),
 o1 107 (.pick (.s 102) (.s 106) (.k (.sc (.bool false)))),
 o2 108 (mvS 107),
 o3 109 108 true (mvS 12),
 o3 110 108 true (.cstr (.s 109)),
 o3 111 108 true (.eqt false (.s 110) (.k (.sc (.string str_abc)))),
 o1 112 (.pick (.s 108) (.s 111) (.k (.sc (.bool false)))),
 o2 113 (mvS 112),
 o3 114 113 true (fdS 1 11),
 o3 115 113 true (ldS 204 1 114),
 o3 116 113 true (.cstr (.s 115)),
 o3 117 113 true (.eqt false (.s 116) (.k (.sc (.string str_d)))),
 o1 118 (.pick (.s 113) (.s 117) (.k (.sc (.bool false)))),
 o2 119 (mvS 118),
 o3 120 119 true (.load 124 0 15 true false 1),
 o3 121 119 true (.call 22 [(false, .s 120)] [] []),
 o3 122 119 true (.bin .eql (.s 121) (.k (.sc (.int .i64 10)))),
 o1 123 (.pick (.s 119) (.s 122) (.k (.sc (.bool false)))),
 o1 0 (mvS 123)]
def i11_0 : CW := .seq (.fin (.reg g11_5) [16, 50, 51, 52, 53] [(236, 15)]) (.seq (.seq (.fin (.reg g11_6) [2, 5, 6, 9, 10, 15, 17, 54, 55, 56, 57, 58, 59, 60, 61, 62, 63, 64, 65, 66, 67, 68, 69, 70, 71, 72, 73, 74, 75, 76, 77, 78] []) (.fin (.cond (.s 79) (.seq (.fin (.reg g11_7) [1, 4, 7, 8, 11, 12, 79] [(124, 15), (156, 15), (172, 15), (188, 15), (204, 15)]) (.ret)) (.skip)) [79] [])) (.seq (.fin (.reg g11_8) [1, 4, 7, 8, 11, 12, 80, 81, 82, 83, 84, 85, 86, 87, 88, 89, 90, 91, 92, 93, 94, 95, 96, 97, 98, 99, 100, 101, 102, 103, 104, 105, 106, 107, 108, 109, 110, 111, 112, 113, 114, 115, 116, 117, 118, 119, 120, 121, 122, 123] [(124, 15), (156, 15), (172, 15), (188, 15), (204, 15)]) (.ret)))
def g11_0 : LS := [o1 0 (.mv false (.k (.sc (.bool false))))]
def g11_1 : LS := [o1 19 (.call 17 [(false, .k (.sc (.int .i64 10))), (false, .k (.sc (.int .i64 0))), (false, .k (.sc (.int .u32 100))), (false, .k (.sc (.int .u32 7))), (false, .k (.sc (.bool false))), (false, .k (.sc (.bool true)))] [] []),
 o1 18 (mvS 19),
 o1 20 (.ext false 0 (.s 18)),
 o1 21 (.ext false 1 (.s 18)),
 o1 1 (.alloc 124 [.sc (.int .i64 0), .row false (.ruint8 []), .row false (.rPiece []), .sc (.int .i64 0), .sc (.int .i64 0), .sc (.int .i64 0), .sc (.int .u32 0), .sc (.bool false), .sc (.bool false), .sc (.int .i64 0), .sc (.bool false), .row false (.rSpan []), .sc (.int .u32 0), .sc (.int .u32 0), .sc (.bool false)]),
 o0 (.store 124 0 15 false 1 (.s 20)),
 o1 2 (mvS 21)]
def g11_2 : LS := [o1 23 (.load 124 0 15 true false 1),
 o1 24 (.ubs 5 2 [(0, 1, .k (.sc (.int .u8 99))), (1, 1, .k (.sc (.int .u8 100)))]),
 o1 25 (.uconv (.s 24)),
 o1 26 (.build [.sc (.int .i64 0), .sc (.int .i64 0), .sc (.int .u32 0), .sc (.int .u32 0), .sc (.int .i64 0), .sc (.int .i64 0), .sc (.int .i64 0), .sc (.int .i64 0), .sc (.int .i64 0), .sc (.bool false), .sc (.bool false), .sc (.int .u32 0), .sc (.int .u32 0), .row false (.rBlock []), .row false (.ruint8 [])] [(2, 1, .k (.sc (.int .u32 102))), (14, 1, .s 25)]),
 o1 27 (.call 12 [(false, .s 23), (false, .s 26)] [] []),
 o1 22 (mvS 27),
 o1 28 (.ext false 0 (.s 22)),
 o1 29 (.ext false 1 (.s 22)),
 o1 30 (.ext false 2 (.s 22)),
 o1 31 (.ext false 3 (.s 22)),
 o1 3 (.alloc 140 [.sc (.int .i64 0), .row false (.ruint8 []), .row false (.rPiece []), .sc (.int .i64 0), .sc (.int .i64 0), .sc (.int .i64 0), .sc (.int .u32 0), .sc (.bool false), .sc (.bool false), .sc (.int .i64 0), .sc (.bool false), .row false (.rSpan []), .sc (.int .u32 0), .sc (.int .u32 0), .sc (.bool false)]),
 o1 4 (.alloc 156 [.sc (.int .i64 0), .sc (.int .i64 0), .sc (.int .u32 0), .sc (.int .u32 0), .sc (.int .i64 0), .sc (.int .i64 0), .sc (.int .i64 0), .sc (.int .i64 0), .sc (.int .i64 0), .sc (.bool false), .sc (.bool false), .sc (.int .u32 0), .sc (.int .u32 0), .row false (.rBlock []), .row false (.ruint8 [])]),
 o0 (.store 140 0 15 false 3 (.s 28)),
 o0 (.store 156 0 15 false 4 (.s 29)),
 o1 5 (mvS 30),
 o1 6 (mvS 31)]
def g11_3 : LS := [o1 33 (.load 140 0 15 true false 3),
 o1 34 (.ubs 5 2 [(0, 1, .k (.sc (.int .u8 97))), (1, 1, .k (.sc (.int .u8 98)))]),
 o1 35 (.uconv (.s 34)),
 o1 36 (.build [.sc (.int .i64 0), .sc (.int .i64 0), .sc (.int .u32 0), .sc (.int .u32 0), .sc (.int .i64 0), .sc (.int .i64 0), .sc (.int .i64 0), .sc (.int .i64 0), .sc (.int .i64 0), .sc (.bool false), .sc (.bool false), .sc (.int .u32 0), .sc (.int .u32 0), .row false (.rBlock []), .row false (.ruint8 [])] [(2, 1, .k (.sc (.int .u32 100))), (14, 1, .s 35)]),
 o1 37 (.call 12 [(false, .s 33), (false, .s 36)] [] []),
 o1 32 (mvS 37),
 o1 38 (.ext false 0 (.s 32)),
 o1 39 (.ext false 1 (.s 32)),
 o1 40 (.ext false 2 (.s 32)),
 o1 41 (.ext false 3 (.s 32)),
 o1 7 (.alloc 172 [.sc (.int .i64 0), .row false (.ruint8 []), .row false (.rPiece []), .sc (.int .i64 0), .sc (.int .i64 0), .sc (.int .i64 0), .sc (.int .u32 0), .sc (.bool false), .sc (.bool false), .sc (.int .i64 0), .sc (.bool false), .row false (.rSpan []), .sc (.int .u32 0), .sc (.int .u32 0), .sc (.bool false)]),
 o1 8 (.alloc 188 [.sc (.int .i64 0), .sc (.int .i64 0), .sc (.int .u32 0), .sc (.int .u32 0), .sc (.int .i64 0), .sc (.int .i64 0), .sc (.int .i64 0), .sc (.int .i64 0), .sc (.int .i64 0), .sc (.bool false), .sc (.bool false), .sc (.int .u32 0), .sc (.int .u32 0), .row false (.rBlock []), .row false (.ruint8 [])]),
 o0 (.store 172 0 15 false 7 (.s 38)),
 o0 (.store 188 0 15 false 8 (.s 39)),
 o1 9 (mvS 40),
 o1 10 (mvS 41)]
def g11_4 : LS := [o1 43 (.load 172 0 15 true false 7),
 o1 44 (.call 20 [(false, .s 43), (false, .k (.sc (.int .i64 3)))] [] []),
 o1 42 (mvS 44),
 o1 45 (.ext false 0 (.s 42)),
 o1 46 (.ext false 1 (.s 42)),
 o1 47 (.ext false 2 (.s 42)),
 o1 48 (.ext false 3 (.s 42)),
 o1 49 (.ext false 4 (.s 42)),
 o1 11 (.alloc 204 [.sc (.int .i64 0), .row false (.ruint8 []), .row false (.rPiece []), .sc (.int .i64 0), .sc (.int .i64 0), .sc (.int .i64 0), .sc (.int .u32 0), .sc (.bool false), .sc (.bool false), .sc (.int .i64 0), .sc (.bool false), .row false (.rSpan []), .sc (.int .u32 0), .sc (.int .u32 0), .sc (.bool false)]),
 o1 13 (.alloc 220 [.sc (.int .i64 0), .sc (.int .i64 0), .sc (.int .u32 0), .sc (.int .u32 0), .sc (.int .i64 0), .sc (.int .i64 0), .sc (.int .i64 0), .sc (.int .i64 0), .sc (.int .i64 0), .sc (.bool false), .sc (.bool false), .sc (.int .u32 0), .sc (.int .u32 0), .row false (.rBlock []), .row false (.ruint8 [])]),
 o0 (.store 204 0 15 false 11 (.s 45)),
 o1 12 (mvS 46),
 o0 (.store 220 0 15 false 13 (.s 47)),
 o1 14 (mvS 48),
 o1 15 (mvS 49)]
def i11_1 : CW := .seq (.fin (.reg g11_0) [0] []) (.seq (.fin (.reg g11_1) [18, 19, 20, 21] []) (.seq (.fin (.reg g11_2) [22, 23, 24, 25, 26, 27, 28, 29, 30, 31] []) (.seq (.fin (.reg g11_3) [3, 32, 33, 34, 35, 36, 37, 38, 39, 40, 41] [(140, 15)]) (.seq (.fin (.reg g11_4) [13, 14, 42, 43, 44, 45, 46, 47, 48, 49] [(220, 15)]) i11_0))))
def fn11 : IFn2 RW := ⟨11, 0, 124, 256, [(124, 15), (140, 15), (156, 15), (172, 15), (188, 15), (204, 15), (220, 15), (236, 15)], [], [], [.slot 0], i11_1⟩
def g9_5 : LS := [o1 47 (.load 106 0 15 true false 5),
 o1 48 (.load 138 0 15 true false 10),
 o1 49 (.call 14 [(false, .s 47), (false, .s 48)] [] []),
 o2 50 (mvS 49),
 o3 51 50 true (mvS 6),
 o3 52 50 true (mvS 11),
 o3 53 50 true (.call 21 [(false, .s 51), (false, .s 52)] [] []),
 o1 54 (.pick (.s 50) (.s 53) (.k (.sc (.bool false)))),
 o2 55 (mvS 54),
 o3 56 55 true (.load 122 0 15 true false 7),
 o3 57 55 true (.load 154 0 15 true false 12),
 o3 58 55 true (.call 15 [(false, .s 56), (false, .s 57)] [] []),
 o1 59 (.pick (.s 55) (.s 58) (.k (.sc (.bool false)))),
 o2 60 (mvS 59),
 o3 61 60 true (mvS 8),
 o3 62 60 true (mvS 13),
 o3 63 60 true (.eqb false (.s 61) (.s 62)),
 o1 64 (.pick (.s 60) (.s 63) (.k (.sc (.bool false)))),
 o2 65 (mvS 64),
 o3 66 65 true (mvS 9),
 o3 67 65 true (mvS 14),
 o3 68 65 true (bnS .eql 66 67),
 o1 69 (.pick (.s 65) (.s 68) (.k (.sc (.bool false)))),
 o2 70 (mvS 69),
 o3 71 70 true (.load 170 0 15 true false 15),
 o3 72 70 true (.load 202 0 15 true false 17),
 o3 73 70 true (.call 14 [(false, .s 71), (false, .s 72)] [] []),
 o1 74 (.pick (.s 70) (.s 73) (.k (.sc (.bool false)))),
 o2 75 (mvS 74),
 o3 76 75 true (.load 186 0 15 true false 16),
 o3 77 75 true (.load 218 0 15 true false 18),
 o3 78 75 true (.call 15 [(false, .s 76), (false, .s 77)] [] []),
 o1 79 (.pick (.s 75) (.s 78) (.k (.sc (.bool false)))),
 o2 80 (mvS 79),
 o3 81 80 true (.load 90 0 15 true false 2),
 o3 82 80 true (.call 22 [(false, .s 81)] [] []),
 o3 83 80 true (.load 90 0 15 true false 2),
 o3 84 80 true (.call 26 [(false, .s 83)] [] []),
 o3 85 80 true (bnS .eql 82 84),
 o1 86 (.pick (.s 80) (.s 85) (.k (.sc (.bool false)))),
 o2 87 (mvS 86),
 o3 88 87 true (.call 11 [] [] []),
 o1 89 (.pick (.s 87) (.s 88) (.k (.sc (.bool false)))),
 o1 4 (mvS 89)]
def i9_0 : CW := .fin (.reg g9_5) [2, 5, 6, 7, 8, 9, 10, 11, 12, 13, 14, 15, 16, 17, 18, 47, 48, 49, 50, 51, 52, 53, 54, 55, 56, 57, 58, 59, 60, 61, 62, 63, 64, 65, 66, 67, 68, 69, 70, 71, 72, 73, 74, 75, 76, 77, 78, 79, 80, 81, 82, 83, 84, 85, 86, 87, 88, 89] [(90, 15), (106, 15), (122, 15), (138, 15), (154, 15), (170, 15), (186, 15), (202, 15), (218, 15)]
def i9_1 : CW := .ret
def i9_2 : CW := .seq i9_0 i9_1
def g9_0 : LS := [o1 2 (.box 90 15 false (.s 0)),
 o1 4 (.mv false (.k (.sc (.bool false))))]
def g9_1 : LS := [o1 20 (.load 90 0 15 true false 2),
 o1 21 (mvS 1),
 o1 22 (.call 20 [(false, .s 20), (false, .s 21)] [] []),
 o1 19 (mvS 22),
 o1 23 (.ext false 0 (.s 19)),
 o1 24 (.ext false 1 (.s 19)),
 o1 25 (.ext false 2 (.s 19)),
 o1 26 (.ext false 3 (.s 19)),
 o1 27 (.ext false 4 (.s 19)),
 o1 5 (.alloc 106 [.sc (.int .i64 0), .row false (.ruint8 []), .row false (.rPiece []), .sc (.int .i64 0), .sc (.int .i64 0), .sc (.int .i64 0), .sc (.int .u32 0), .sc (.bool false), .sc (.bool false), .sc (.int .i64 0), .sc (.bool false), .row false (.rSpan []), .sc (.int .u32 0), .sc (.int .u32 0), .sc (.bool false)]),
 o1 7 (.alloc 122 [.sc (.int .i64 0), .sc (.int .i64 0), .sc (.int .u32 0), .sc (.int .u32 0), .sc (.int .i64 0), .sc (.int .i64 0), .sc (.int .i64 0), .sc (.int .i64 0), .sc (.int .i64 0), .sc (.bool false), .sc (.bool false), .sc (.int .u32 0), .sc (.int .u32 0), .row false (.rBlock []), .row false (.ruint8 [])]),
 o0 (.store 106 0 15 false 5 (.s 23)),
 o1 6 (mvS 24),
 o0 (.store 122 0 15 false 7 (.s 25)),
 o1 8 (mvS 26),
 o1 9 (mvS 27)]
def g9_2 : LS := [o1 29 (.load 90 0 15 true false 2),
 o1 30 (mvS 1),
 o1 31 (.call 24 [(false, .s 29), (false, .s 30)] [] []),
 o1 28 (mvS 31),
 o1 32 (.ext false 0 (.s 28)),
 o1 33 (.ext false 1 (.s 28)),
 o1 34 (.ext false 2 (.s 28)),
 o1 35 (.ext false 3 (.s 28)),
 o1 36 (.ext false 4 (.s 28)),
 o1 10 (.alloc 138 [.sc (.int .i64 0), .row false (.ruint8 []), .row false (.rPiece []), .sc (.int .i64 0), .sc (.int .i64 0), .sc (.int .i64 0), .sc (.int .u32 0), .sc (.bool false), .sc (.bool false), .sc (.int .i64 0), .sc (.bool false), .row false (.rSpan []), .sc (.int .u32 0), .sc (.int .u32 0), .sc (.bool false)]),
 o1 12 (.alloc 154 [.sc (.int .i64 0), .sc (.int .i64 0), .sc (.int .u32 0), .sc (.int .u32 0), .sc (.int .i64 0), .sc (.int .i64 0), .sc (.int .i64 0), .sc (.int .i64 0), .sc (.int .i64 0), .sc (.bool false), .sc (.bool false), .sc (.int .u32 0), .sc (.int .u32 0), .row false (.rBlock []), .row false (.ruint8 [])]),
 o0 (.store 138 0 15 false 10 (.s 32)),
 o1 11 (mvS 33),
 o0 (.store 154 0 15 false 12 (.s 34)),
 o1 13 (mvS 35),
 o1 14 (mvS 36)]
def g9_3 : LS := [o1 38 (.load 90 0 15 true false 2),
 o1 39 (.call 23 [(false, .s 38)] [] []),
 o1 37 (mvS 39),
 o1 40 (.ext false 0 (.s 37)),
 o1 41 (.ext false 1 (.s 37)),
 o1 15 (.alloc 170 [.sc (.int .i64 0), .row false (.ruint8 []), .row false (.rPiece []), .sc (.int .i64 0), .sc (.int .i64 0), .sc (.int .i64 0), .sc (.int .u32 0), .sc (.bool false), .sc (.bool false), .sc (.int .i64 0), .sc (.bool false), .row false (.rSpan []), .sc (.int .u32 0), .sc (.int .u32 0), .sc (.bool false)]),
 o1 16 (.alloc 186 [.sc (.int .i64 0), .sc (.int .i64 0), .sc (.int .u32 0), .sc (.int .u32 0), .sc (.int .i64 0), .sc (.int .i64 0), .sc (.int .i64 0), .sc (.int .i64 0), .sc (.int .i64 0), .sc (.bool false), .sc (.bool false), .sc (.int .u32 0), .sc (.int .u32 0), .row false (.rBlock []), .row false (.ruint8 [])]),
 o0 (.store 170 0 15 false 15 (.s 40)),
 o0 (.store 186 0 15 false 16 (.s 41))]
def g9_4 : LS := [o1 43 (.load 90 0 15 true false 2),
 o1 44 (.call 25 [(false, .s 43)] [] []),
 o1 42 (mvS 44),
 o1 45 (.ext false 0 (.s 42)),
 o1 46 (.ext false 1 (.s 42)),
 o1 17 (.alloc 202 [.sc (.int .i64 0), .row false (.ruint8 []), .row false (.rPiece []), .sc (.int .i64 0), .sc (.int .i64 0), .sc (.int .i64 0), .sc (.int .u32 0), .sc (.bool false), .sc (.bool false), .sc (.int .i64 0), .sc (.bool false), .row false (.rSpan []), .sc (.int .u32 0), .sc (.int .u32 0), .sc (.bool false)]),
 o1 18 (.alloc 218 [.sc (.int .i64 0), .sc (.int .i64 0), .sc (.int .u32 0), .sc (.int .u32 0), .sc (.int .i64 0), .sc (.int .i64 0), .sc (.int .i64 0), .sc (.int .i64 0), .sc (.int .i64 0), .sc (.bool false), .sc (.bool false), .sc (.int .u32 0), .sc (.int .u32 0), .row false (.rBlock []), .row false (.ruint8 [])]),
 o0 (.store 202 0 15 false 17 (.s 45)),
 o0 (.store 218 0 15 false 18 (.s 46))]
def i9_3 : CW := .seq (.fin (.reg g9_0) [0, 4] []) (.seq (.fin (.reg g9_1) [19, 20, 21, 22, 23, 24, 25, 26, 27] []) (.seq (.fin (.reg g9_2) [1, 28, 29, 30, 31, 32, 33, 34, 35, 36] []) (.seq (.fin (.reg g9_3) [37, 38, 39, 40, 41] []) (.seq (.fin (.reg g9_4) [42, 43, 44, 45, 46] []) i9_2))))
def fn9 : IFn2 RW := ⟨9, 2, 90, 240, [(90, 15), (106, 15), (122, 15), (138, 15), (154, 15), (170, 15), (186, 15), (202, 15), (218, 15)], [], [], [.slot 4], i9_3⟩
end
/-! tideway/recv.reach -/
section
variable (cp : CP) (n : Nat) (k : KX R)
theorem run27 (cp : CP) (n : Nat) (p0 : SRecv) (k : Ret2 RW → Option R) : G27 cp (n + 1) p0 (fun r0 => k ⟨(tL r0), [], []⟩) = run2 U cp (callP cp n) n fn27 [.agg (eRecv p0)] [] k := by kernel_rfl
end
/-! tideway/recv.limit -/
section
variable (cp : CP) (n : Nat) (k : KX R)
theorem run53 (cp : CP) (n : Nat) (p0 : SRecv) (k : Ret2 RW → Option R) : G53 cp (n + 1) p0 (fun r0 => k ⟨(tL r0), [], []⟩) = run2 U cp (callP cp n) n fn53 [.agg (eRecv p0)] [] k := by kernel_rfl
end
/-! tideway/recv.late -/
section
variable (cp : CP) (n : Nat) (k : KX R)
theorem run55 (cp : CP) (n : Nat) (p0 : SRecv) (k : Ret2 RW → Option R) : G55 cp (n + 1) p0 (fun r0 => k ⟨.clo 70 [(4, 0)], [], [(eRecv r0)]⟩) = run2 U cp (callP cp n) n fn55 [.agg (eRecv p0)] [] k := by kernel_rfl
end
/-! tideway/recv.of -/
section
variable (cp : CP) (n : Nat) (k : KX R)
theorem run71 (cp : CP) (n : Nat) (p0 : SPiece) (k : Ret2 RW → Option R) : G71 cp (n + 1) p0 (fun r0 => k ⟨.agg (eSpan r0), [], []⟩) = run2 U cp (callP cp n) n fn71 [.agg (ePiece p0)] [] k := by kernel_rfl
end
/-! slices.AppendSeq[[]tideway/api.Span,tideway/api.Span] -/
section
variable (cp : CP) (n : Nat) (p0 : (List SSpan)) (q0 : SRecv) (v9 v10 : Int) (v11 : (List SSpan)) (v12 : Int) (v13 : (List Int)) (v15 v16 : Int) (v17 v18 v19 v20 v21 : (List SSpan)) (v22 v23 : Int) (v24 : (List SSpan)) (v25 : Int) (v26 v27 v28 v29 v30 v31 v32 v33 v34 : (List SSpan)) (k : KX R)
def w1008_0 : Fr := (.hdr 15) :: (eRecv q0)
def w1008_1 : Fr := (.hdr 1) :: (.row true (.rSpan p0)) :: (dT 14 [])
def fr1008_2 : FF := [dT 1 ((.clo 70 [(32, 0)]) :: (.ptr 48 0) :: (dT 13 [])), dc, w1008_0 q0, w1008_1 p0]
def w1008_2 : Fr := dT 2 ((.ptr 48 0) :: (dT 3 ((.clo 70 [(32, 0)]) :: (dT 9 []))))
def fr1008_4 : FF := [w1008_2, dc, w1008_0 q0, w1008_1 p0]
def fr1008_6 : FF := [w1008_2, dc, dc, dc]
def y1008_5 (cp : CP) (n : Nat) : List (TV RW) → FF → (FF → Option R) → Option R := rndT 2 [7] [32, 48, 53] fr1008_6 (X cp n i1008_2)
def fr1008_8 : FF := [.yld :: (dT 5 ((.row false (.rPiece q0.xLate)) :: (tL v9) :: (tL 0) :: (dT 7 []))), dc, w1008_0 q0, w1008_1 p0]
def w1008_3 : Fr := .yld :: (dT 5 ((.row false (.rPiece q0.xLate)) :: (tL v9) :: (tL v10) :: (dT 7 [])))
def w1008_4 : Fr := (.hdr 1) :: (.row true (.rSpan v11)) :: (dT 14 [])
def fr1008_10 : FF := [w1008_3 q0 v9 v10, dc, w1008_0 q0, w1008_4 v11]
def fr1008_11 : FF := [dc, dc, w1008_0 q0, w1008_4 v11]
def w1008_5 : Fr := (.hdr 1) :: (.row true (.rSpan v11)) :: (dT 3 ((.hdr 2) :: (tL v12) :: (.row false (.ruint8 v13)) :: (dT 8 [])))
def fr1008_13 : FF := [.yld :: (dT 3 ((.ptr 53 0) :: (dT 1 ((.row false (.rPiece q0.xLate)) :: (tL v9) :: (tL v10) :: (dT 7 []))))), dc, w1008_0 q0, w1008_5 v11 v12 v13]
def fr1008_15 : FF := [.yld :: (dT 3 ((.ptr 53 0) :: (dT 1 ((.row false (.rPiece q0.xLate)) :: (tL v9) :: (tL v10) :: (dT 3 (.yld :: (.agg [(tL v12), .row false (.ruint8 v13)]) :: (.agg [(tL v15), (tL v16)]) :: (dT 1 []))))))), dc, w1008_0 q0, w1008_5 v11 v12 v13]
theorem s1008_14_t (cp : CP) (n : Nat) (q0 : SRecv) (v9 v10 : Int) (v11 : (List SSpan)) (v12 : Int) (v13 : (List Int)) (A B : FF → Option R) : (gF (fr1008_13 q0 v9 v10 v11 v12 v13) fun l => steps2 U cp (callP cp n) g1008_10031 l fun l1 => yGuard2 none l1 (A l1) (B l1)) = s1008_14 cp n q0 v9 v10 v11 v12 v13 (fun v15 v16 => A (fr1008_15 q0 v9 v10 v11 v12 v13 v15 v16)) := by kernel_rfl
def w1008_6 : Fr := (.hdr 1) :: (.row true (.rSpan v17)) :: (dT 3 ((.hdr 2) :: (tL v12) :: (.row false (.ruint8 v13)) :: (dT 8 [])))
def fr1008_17 : FF := [w1008_2, dc, w1008_0 q0, w1008_6 v12 v13 v17]
def fr1008_18 : FF := [dT 2 ((.ptr 48 0) :: (dT 3 ((.clo 70 [(32, 0)]) :: (.agg [(tL v15), (tL v16)]) :: (dT 8 [])))), dc, w1008_0 q0, w1008_5 v11 v12 v13]
theorem s1008_16_t : X cp n i1008_2 (fr1008_18 q0 v11 v12 v13 v15 v16) k = s1008_16 cp n q0 v11 v12 v13 v15 v16 (fun v17 => k .norm (fr1008_17 q0 v12 v13 v17)) := by kernel_rfl
def fr1008_20 : FF := [.yld :: (dT 3 ((.ptr 53 0) :: (dT 1 ((.row false (.rPiece q0.xLate)) :: (tL v9) :: (tL v10) :: (dT 3 ([.yld, .agg [(tL v12), .row false (.ruint8 v13)], .agg [(tL v15), (tL v16)], (tB true)])))))), dc, w1008_0 q0, w1008_6 v12 v13 v17]
theorem q1008_19_t (cp : CP) (n : Nat) (q0 : SRecv) (v9 v10 : Int) (v11 : (List SSpan)) (v12 : Int) (v13 : (List Int)) (v15 v16 : Int) (K : FF → Option R) : yRun2 (y1008_5 cp n) (.s 12) [.s 14] 15 (fr1008_15 q0 v9 v10 v11 v12 v13 v15 v16) K = s1008_16 cp n q0 v11 v12 v13 v15 v16 (fun v17 => K (fr1008_20 q0 v9 v10 v12 v13 v15 v16 v17)) := ((fun x => (show yRun2 (rndT 2 [7] [32, 48, 53] fr1008_6 x) (.s 12) [.s 14] 15 (fr1008_15 q0 v9 v10 v11 v12 v13 v15 v16) K = x (fr1008_18 q0 v11 v12 v13 v15 v16) (roundT 2 (fr1008_15 q0 v9 v10 v11 v12 v13 v15 v16) (fun l2 => putO l2 (some 15) (.sc (.bool true)) K)) from by kernel_rfl)) (X cp n i1008_2)).trans ((s1008_16_t cp n q0 v11 v12 v13 v15 v16 (roundT 2 (fr1008_15 q0 v9 v10 v11 v12 v13 v15 v16) (fun l2 => putO l2 (some 15) (.sc (.bool true)) K))).trans (by kernel_rfl))
def w1008_7 : Fr := (.hdr 1) :: (.row true (.rSpan v18)) :: (dT 14 [])
def fr1008_21 : FF := [w1008_3 q0 v9 v10, (tB false) :: (dT 15 []), w1008_0 q0, w1008_7 v18]
theorem s1008_22_t : XI cp n (y1008_5 cp n) i1008_4 (fr1008_13 q0 v9 v10 v11 v12 v13) k = s1008_22 cp n q0 v9 v10 v11 v12 v13 (fun v18 => k .norm (fr1008_21 q0 v9 v10 v18)) := (show XI cp n (y1008_5 cp n) i1008_4 (fr1008_13 q0 v9 v10 v11 v12 v13) k = gF (fr1008_13 q0 v9 v10 v11 v12 v13) fun l => steps2 U cp (callP cp n) g1008_10031 l fun l1 => yGuard2 none l1 ((fun l1 => yRun2 (y1008_5 cp n) (.s 12) [.s 14] 15 l1 (fun l2 => steps2 U cp (callP cp n) g1008_10032 l2 ((clrT [4, 12, 13, 14, 15] [(53, 2)] k) .norm))) l1) ((fun l1 => putO l1 (some 15) (.tup []) fun l2 => steps2 U cp (callP cp n) g1008_10032 l2 ((clrT [4, 12, 13, 14, 15] [(53, 2)] k) .norm)) l1) from by kernel_rfl).trans ((s1008_14_t cp n q0 v9 v10 v11 v12 v13 (fun l1 => yRun2 (y1008_5 cp n) (.s 12) [.s 14] 15 l1 (fun l2 => steps2 U cp (callP cp n) g1008_10032 l2 ((clrT [4, 12, 13, 14, 15] [(53, 2)] k) .norm))) (fun l1 => putO l1 (some 15) (.tup []) fun l2 => steps2 U cp (callP cp n) g1008_10032 l2 ((clrT [4, 12, 13, 14, 15] [(53, 2)] k) .norm))).trans (congrArg (s1008_14 cp n q0 v9 v10 v11 v12 v13) (funext fun v15 => funext fun v16 => (q1008_19_t cp n q0 v9 v10 v11 v12 v13 v15 v16 (fun l2 => steps2 U cp (callP cp n) g1008_10032 l2 ((clrT [4, 12, 13, 14, 15] [(53, 2)] k) .norm))).trans (show s1008_16 cp n q0 v11 v12 v13 v15 v16 (fun v17 => (fun l2 => steps2 U cp (callP cp n) g1008_10032 l2 ((clrT [4, 12, 13, 14, 15] [(53, 2)] k) .norm)) (fr1008_20 q0 v9 v10 v12 v13 v15 v16 v17)) = s1008_16 cp n q0 v11 v12 v13 v15 v16 (fun v17 => k .norm (fr1008_21 q0 v9 v10 v17)) from by kernel_rfl))))
def fr1008_24 : FF := [w1008_3 q0 v9 v10, dc, w1008_0 q0, w1008_7 v18]
theorem s1008_23_t : XI cp n (y1008_5 cp n) i1008_5 (fr1008_21 q0 v9 v10 v18) k = s1008_23 cp n q0 v9 v10 v18 (k .norm (fr1008_24 q0 v9 v10 v18)) := by kernel_rfl
def fr1008_25 : FF := [w1008_3 q0 v9 v10, dc, w1008_0 q0, (.hdr 1) :: (.row true (.rSpan v19)) :: (dT 14 [])]
theorem s1008_26_t : XI cp n (y1008_5 cp n) i1008_6 (fr1008_13 q0 v9 v10 v11 v12 v13) k = s1008_26 cp n q0 v9 v10 v11 v12 v13 (fun v19 => k .norm (fr1008_25 q0 v9 v10 v19)) := tq (tq (congrArg (fun q => s1008_22 cp n q0 v9 v10 v11 v12 v13 q) (funext fun v18 => (s1008_23_t cp n q0 v9 v10 v18 k).trans (show _ = s1008_23 cp n q0 v9 v10 v18 (k .norm (fr1008_25 q0 v9 v10 v18)) from by kernel_rfl))) ((s1008_22_t cp n q0 v9 v10 v11 v12 v13 (seqT (XI cp n (y1008_5 cp n)) i1008_5 k)).trans (by kernel_rfl))) (by kernel_rfl)
def fr1008_27 : FF := [w1008_3 q0 v9 v10, dc, w1008_0 q0, (.hdr 1) :: (.row true (.rSpan v20)) :: (dT 14 [])]
theorem s1008_28_t : XI cp n (y1008_5 cp n) i1008_7 (fr1008_10 q0 v9 v10 v11) k = s1008_28 cp n q0 v9 v10 v11 (fun v20 => k .norm (fr1008_27 q0 v9 v10 v20)) := ch (fun q => s1008_12 cp n q0 v9 v10 v11 q) (fun c v12 v13 => XI cp n (y1008_5 cp n) c (fr1008_13 q0 v9 v10 v11 v12 v13) k) i1008_6 (fun c => XI cp n (y1008_5 cp n) (.seq (.fin (.reg g1008_1002) [10, 11] []) c) (fr1008_10 q0 v9 v10 v11) k) (fun c => by kernel_rfl) (funext fun v12 => funext fun v13 => (s1008_26_t cp n q0 v9 v10 v11 v12 v13 k).trans (show _ = s1008_26 cp n q0 v9 v10 v11 v12 v13 (fun v19 => k .norm (fr1008_27 q0 v9 v10 v19)) from by kernel_rfl)) (by kernel_rfl) (by kernel_rfl)
def w1008_8 : Fr := (.hdr 1) :: (.row true (.rSpan v21)) :: (dT 14 [])
def fr1008_29 : FF := [w1008_3 q0 v9 v10, dc, w1008_0 q0, w1008_8 v21]
theorem s1008_30_t : XI cp n (y1008_5 cp n) i1008_8 (fr1008_10 q0 v9 v10 v11) k = s1008_30 cp n q0 v9 v10 v11 (fun v21 => k .norm (fr1008_29 q0 v9 v10 v21)) := tq ((s1008_28_t cp n q0 v9 v10 v11 (blkT 1 k)).trans (by kernel_rfl)) (by kernel_rfl)
def fr1008_32 : FF := [.yld :: (dT 5 ((.row false (.rPiece q0.xLate)) :: (tL v9) :: (tL v22) :: (dT 7 []))), dc, w1008_0 q0, w1008_8 v21]
theorem s1008_31_t : XI cp n (y1008_5 cp n) i1008_9 (fr1008_29 q0 v9 v10 v21) k = s1008_31 cp n q0 v9 v10 v21 (fun v22 => k .norm (fr1008_32 q0 v9 v21 v22)) := by kernel_rfl
def fr1008_33 : FF := [.yld :: (dT 5 ((.row false (.rPiece q0.xLate)) :: (tL v9) :: (tL v23) :: (dT 7 []))), dc, w1008_0 q0, (.hdr 1) :: (.row true (.rSpan v24)) :: (dT 14 [])]
theorem s1008_34_t : XI cp n (y1008_5 cp n) i1008_10 (fr1008_10 q0 v9 v10 v11) k = s1008_34 cp n q0 v9 v10 v11 (fun v23 v24 => k .norm (fr1008_33 q0 v9 v23 v24)) := tq (tq (congrArg (fun q => s1008_30 cp n q0 v9 v10 v11 q) (funext fun v21 => (s1008_31_t cp n q0 v9 v10 v21 k).trans (show _ = s1008_31 cp n q0 v9 v10 v21 (fun v22 => k .norm (fr1008_33 q0 v9 v22 v21)) from by kernel_rfl))) ((s1008_30_t cp n q0 v9 v10 v11 (seqT (XI cp n (y1008_5 cp n)) i1008_9 k)).trans (by kernel_rfl))) (by kernel_rfl)
def fr1008_35 : FF := [.yld :: (dT 5 ((.row false (.rPiece q0.xLate)) :: (tL v9) :: (tL v25) :: (dT 7 []))), dc, w1008_0 q0, (.hdr 1) :: (.row true (.rSpan v26)) :: (dT 14 [])]
theorem s1008_36_t : XI cp n (y1008_5 cp n) i1008_11 (fr1008_10 q0 v9 v10 v11) k = s1008_36 cp n q0 v9 v10 v11 (fun v25 v26 => k .norm (fr1008_35 q0 v9 v25 v26)) (k (.exit 0) (fr1008_11 q0 v11)) := ch (fun q => s1008_9 cp n q0 v9 v10 v11 q (k (.exit 0) (fr1008_11 q0 v11))) (fun c => XI cp n (y1008_5 cp n) c (fr1008_10 q0 v9 v10 v11) k) i1008_10 (fun c => XI cp n (y1008_5 cp n) (.seq (.reg g1008_1001) (.seq (.fin (.cond (.s 9) (.skip) (.clr [0, 6, 7, 8, 9] [] (.exit 0))) [9] []) c)) (fr1008_10 q0 v9 v10 v11) k) (fun c => by kernel_rfl) ((s1008_34_t cp n q0 v9 v10 v11 k).trans (show _ = s1008_34 cp n q0 v9 v10 v11 (fun v23 v24 => k .norm (fr1008_35 q0 v9 v23 v24)) from by kernel_rfl)) (by kernel_rfl) (by kernel_rfl)
def fr1008_37 : FF := [dc, dc, w1008_0 q0, (.hdr 1) :: (.row true (.rSpan v27)) :: (dT 14 [])]
theorem l1008_38_t (cp : CP) (n : Nat) : ∀ (m : Nat) (q0 : SRecv) (v9 v10 : Int) (v11 : (List SSpan)) (k : KX R), loopN2 (XI cp n (y1008_5 cp n) i1008_11) m (fr1008_10 q0 v9 v10 v11) k = l1008_38 cp n m q0 v9 v10 v11 (fun v27 => k (.exit 0) (fr1008_37 q0 v27))
  | 0, _, _, _, _, _ => rfl
  | m + 1, q0, v9, v10, v11, k => (loopN2_succ (XI cp n (y1008_5 cp n) i1008_11) m (fr1008_10 q0 v9 v10 v11) k).trans ((s1008_36_t cp n q0 v9 v10 v11 (loopT (XI cp n (y1008_5 cp n) i1008_11) m k)).trans (tq (congrArg (fun q => s1008_36 cp n q0 v9 v10 v11 q (k (.exit 0) (fr1008_37 q0 v11))) (funext fun v25 => funext fun v26 => l1008_38_t cp n m q0 v9 v25 v26 k)) (by kernel_rfl)))
theorem s1008_39_t : XI cp n (y1008_5 cp n) i1008_12 (fr1008_8 p0 q0 v9) k = s1008_39 cp n p0 q0 v9 (fun v27 => k (.exit 0) (fr1008_37 q0 v27)) := tq (l1008_38_t cp n n q0 v9 0 p0 k) (by kernel_rfl)
def fr1008_40 : FF := [dc, dc, w1008_0 q0, (.hdr 1) :: (.row true (.rSpan v28)) :: (dT 14 [])]
theorem s1008_41_t : XI cp n (y1008_5 cp n) i1008_13 (fr1008_8 p0 q0 v9) k = s1008_41 cp n p0 q0 v9 (fun v28 => k .norm (fr1008_40 q0 v28)) := tq ((s1008_39_t cp n p0 q0 v9 (blkT 0 k)).trans (by kernel_rfl)) (by kernel_rfl)
def fr1008_42 : FF := [dc, dc, w1008_0 q0, (.hdr 1) :: (.row true (.rSpan v29)) :: (dT 14 [])]
def fr1008_44 : FF := [.yld :: (.ptr 32 0) :: (dT 14 []), dc, w1008_0 q0, w1008_1 p0]
theorem s1008_43_t : XI cp n (y1008_5 cp n) i1008_3 (fr1008_44 p0 q0) k = s1008_43 cp n p0 q0 (fun v29 => k .norm (fr1008_42 q0 v29)) := ch (fun q => s1008_7 cp n p0 q0 q) (fun c v9 => XI cp n (y1008_5 cp n) c (fr1008_8 p0 q0 v9) k) i1008_13 (fun c => XI cp n (y1008_5 cp n) (.seq (.fin (.reg g1008_1000) [1, 5] []) c) (fr1008_44 p0 q0) k) (fun c => by kernel_rfl) (funext fun v9 => (s1008_41_t cp n p0 q0 v9 k).trans (show _ = s1008_41 cp n p0 q0 v9 (fun v28 => k .norm (fr1008_42 q0 v28)) from by kernel_rfl)) (by kernel_rfl) (by kernel_rfl)
def w1008_9 : Fr := dT 2 ((.ptr 48 0) :: (dT 13 []))
def fr1008_45 : FF := [w1008_9, dc, w1008_0 q0, (.hdr 1) :: (.row true (.rSpan v30)) :: (dT 14 [])]
theorem s1008_46_t : X cp n i1008_14 (fr1008_4 p0 q0) k = s1008_46 cp n p0 q0 (fun v30 => k .norm (fr1008_45 q0 v30)) := (show X cp n i1008_14 (fr1008_4 p0 q0) k = XI cp n (roundK2 2 [7] [32, 48, 53] (fr1008_4 p0 q0) (X cp n i1008_0) (X cp n i1008_1)) i1008_3 (fr1008_44 p0 q0) (rfnT 2 (fr1008_4 p0 q0) (clrT [6] [] k)) from rfn_eq (v := .clo 70 [(32, 0)]) (by kernel_rfl) (by kernel_rfl) (by kernel_rfl) _ _ _).trans ((congrArg (fun Y => XI cp n Y i1008_3 (fr1008_44 p0 q0) (rfnT 2 (fr1008_4 p0 q0) (clrT [6] [] k))) ((rnd_eq 2 [7] [32, 48, 53] (fr1008_4 p0 q0) i1008_0 i1008_1).trans (show rndT 2 [7] [32, 48, 53] (fr1008_4 p0 q0) (X cp n i1008_2) = (y1008_5 cp n) from by kernel_rfl))).trans ((s1008_43_t cp n p0 q0 (rfnT 2 (fr1008_4 p0 q0) (clrT [6] [] k))).trans (by kernel_rfl)))
def fr1008_47 : FF := [w1008_9, dc, w1008_0 q0, (.hdr 1) :: (.row true (.rSpan v31)) :: (dT 14 [])]
theorem s1008_48_t : X cp n i1008_15 (fr1008_4 p0 q0) k = s1008_48 cp n p0 q0 (fun v31 => k .norm (fr1008_47 q0 v31)) := tq ((s1008_46_t cp n p0 q0 (blkT 0 k)).trans (by kernel_rfl)) (by kernel_rfl)
def fr1008_49 : FF := [w1008_9, dc, w1008_0 q0, (.hdr 1) :: (.row true (.rSpan v32)) :: (dT 14 [])]
theorem s1008_50_t : X cp n i1008_16 (fr1008_2 p0 q0) k = s1008_50 cp n p0 q0 (fun v32 => k .norm (fr1008_49 q0 v32)) := ch (fun q => s1008_3 cp n p0 q0 q) (fun c => X cp n c (fr1008_4 p0 q0) k) i1008_15 (fun c => X cp n (.seq (.fin (.reg g1008_1) [1] []) c) (fr1008_2 p0 q0) k) (fun c => by kernel_rfl) ((s1008_48_t cp n p0 q0 k).trans (show _ = s1008_48 cp n p0 q0 (fun v31 => k .norm (fr1008_49 q0 v31)) from by kernel_rfl)) (by kernel_rfl) (by kernel_rfl)
def fr1008_52 : FF := [dT 4 ((.row false (.rSpan v32)) :: (dT 11 [])), dc, w1008_0 q0, dc]
theorem s1008_51_t : X cp n i1008_17 (fr1008_49 q0 v32) k = s1008_51 cp n q0 v32 (k .ret (fr1008_52 q0 v32)) := by kernel_rfl
def fr1008_53 : FF := [dT 4 ((.row false (.rSpan v33)) :: (dT 11 [])), dc, w1008_0 q0, dc]
theorem s1008_54_t : X cp n i1008_18 (fr1008_2 p0 q0) k = s1008_54 cp n p0 q0 (fun v33 => k .ret (fr1008_53 q0 v33)) := tq (tq (congrArg (fun q => s1008_50 cp n p0 q0 q) (funext fun v32 => (s1008_51_t cp n q0 v32 k).trans (show _ = s1008_51 cp n q0 v32 (k .ret (fr1008_53 q0 v32)) from by kernel_rfl))) ((s1008_50_t cp n p0 q0 (seqT (X cp n) i1008_17 k)).trans (by kernel_rfl))) (by kernel_rfl)
def fr1008_55 : FF := [dT 4 ((.row false (.rSpan v34)) :: (dT 11 [])), dc, w1008_0 q0, dc]
def fr1008_57 : FF := [(.row true (.rSpan p0)) :: (.clo 70 [(32, 0)]) :: (dT 14 []), dc, w1008_0 q0, dc]
theorem s1008_56_t : X cp n i1008_19 (fr1008_57 p0 q0) k = s1008_56 cp n p0 q0 (fun v34 => k .ret (fr1008_55 q0 v34)) := ch (fun q => s1008_1 cp n p0 q0 q) (fun c => X cp n c (fr1008_2 p0 q0) k) i1008_18 (fun c => X cp n (.seq (.fin (.reg g1008_0) [0, 4] []) c) (fr1008_57 p0 q0) k) (fun c => by kernel_rfl) ((s1008_54_t cp n p0 q0 k).trans (show _ = s1008_54 cp n p0 q0 (fun v33 => k .ret (fr1008_55 q0 v33)) from by kernel_rfl)) (by kernel_rfl) (by kernel_rfl)
theorem run1008 (cp : CP) (n : Nat) (p0 : (List SSpan)) (q0 : SRecv) (k : Ret2 RW → Option R) : G1008 cp (n + 1) p0 q0 (fun r0 r1 => k ⟨.row false (.rSpan r0), [(eRecv r1)], []⟩) = run2 U cp (callP cp n) n fn1008 [.row true (.rSpan p0), .clo 70 [(32, 0)]] [(eRecv q0)] k := ((X_run (f := fn1008) (av := [.row true (.rSpan p0), .clo 70 [(32, 0)]]) (cells := [(eRecv q0)]) (code := i1008_19) (fr := (fr1008_57 p0 q0)) (k := k) (by kernel_rfl) (fun K => by kernel_rfl)).trans ((s1008_56_t cp n p0 q0 (finK2 fn1008 k)).trans (by kernel_rfl))).symm
end
/-! slices.Collect[tideway/api.Span] -/
section
variable (cp : CP) (n : Nat) (k : KX R)
theorem run1007 (cp : CP) (n : Nat) (q0 : SRecv) (k : Ret2 RW → Option R) : G1007 cp (n + 1) q0 (fun r0 r1 => k ⟨.row false (.rSpan r0), [(eRecv r1)], []⟩) = run2 U cp (callP cp n) n fn1007 [.clo 70 [(5, 0)]] [(eRecv q0)] k := by kernel_rfl
end
/-! slices.Index[[]tideway/api.Span,tideway/api.Span] -/
section
variable (cp : CP) (n : Nat) (p0 : (List SSpan)) (p1 : SSpan) (v41 v42 v43 v44 v45 v46 v47 v48 : Int) (k : KX R)
def w72_0 : Fr := dT 3 ((.hdr 2) :: ((eSpan p1) ++ (dT 10 [])))
def fr72_2 : FF := [(.row false (.rSpan p0)) :: (dT 2 ((.ptr 19 0) :: (dT 12 []))), w72_0 p1]
def fr72_4 : FF := [(.row false (.rSpan p0)) :: (dT 2 ((.ptr 19 0) :: (dT 3 ((tL v41) :: (tL 0) :: (dT 7 []))))), w72_0 p1]
def fr72_6 : FF := [(.row false (.rSpan p0)) :: (dT 2 ((.ptr 19 0) :: (dT 3 ((tL v41) :: (tL v43) :: (dT 7 []))))), w72_0 p1]
def fr72_7 : FF := [dT 4 ((tL v42) :: (dT 11 [])), dc]
def fr72_8 : FF := [dc, dc]
def fr72_9 : FF := [(.row false (.rSpan p0)) :: (dT 2 ((.ptr 19 0) :: (dT 3 ((tL v41) :: (tL v42) :: (dT 7 []))))), w72_0 p1]
theorem s72_5_t : X cp n i72_0 (fr72_9 p0 p1 v41 v42) k = s72_5 cp n p0 p1 v41 v42 (fun v43 => k .norm (fr72_6 p0 p1 v41 v43)) (k .ret (fr72_7 v42)) (k (.exit 0) fr72_8) := by kernel_rfl
def fr72_10 : FF := [dT 4 ((tL v44) :: (dT 11 [])), dc]
theorem l72_11_t (cp : CP) (n : Nat) : ∀ (m : Nat) (p0 : (List SSpan)) (p1 : SSpan) (v41 v42 : Int) (k : KX R), loopN2 (X cp n i72_0) m (fr72_9 p0 p1 v41 v42) k = l72_11 cp n m p0 p1 v41 v42 (fun v44 => k .ret (fr72_10 v44)) (k (.exit 0) fr72_8)
  | 0, _, _, _, _, _ => rfl
  | m + 1, p0, p1, v41, v42, k => (loopN2_succ (X cp n i72_0) m (fr72_9 p0 p1 v41 v42) k).trans ((s72_5_t cp n p0 p1 v41 v42 (loopT (X cp n i72_0) m k)).trans (tq (congrArg (fun q => s72_5 cp n p0 p1 v41 v42 q (k .ret (fr72_10 v42)) (k (.exit 0) fr72_8)) (funext fun v43 => l72_11_t cp n m p0 p1 v41 v43 k)) (by kernel_rfl)))
theorem s72_12_t : X cp n i72_1 (fr72_4 p0 p1 v41) k = s72_12 cp n p0 p1 v41 (fun v44 => k .ret (fr72_10 v44)) (k (.exit 0) fr72_8) := tq (l72_11_t cp n n p0 p1 v41 0 k) (by kernel_rfl)
def fr72_13 : FF := [dT 4 ((tL v45) :: (dT 11 [])), dc]
theorem s72_14_t : X cp n i72_2 (fr72_4 p0 p1 v41) k = s72_14 cp n p0 p1 v41 (k .norm fr72_8) (fun v45 => k .ret (fr72_13 v45)) := tq ((s72_12_t cp n p0 p1 v41 (blkT 0 k)).trans (by kernel_rfl)) (by kernel_rfl)
def fr72_15 : FF := [dT 4 ((tL v46) :: (dT 11 [])), dc]
theorem s72_16_t : X cp n i72_3 (fr72_2 p0 p1) k = s72_16 cp n p0 p1 (k .norm fr72_8) (fun v46 => k .ret (fr72_15 v46)) := ch (fun q => s72_3 cp n p0 p1 q) (fun c v41 => X cp n c (fr72_4 p0 p1 v41) k) i72_2 (fun c => X cp n (.seq (.fin (.reg g72_1) [6] []) c) (fr72_2 p0 p1) k) (fun c => by kernel_rfl) (funext fun v41 => (s72_14_t cp n p0 p1 v41 k).trans (show _ = s72_14 cp n p0 p1 v41 (k .norm fr72_8) (fun v45 => k .ret (fr72_15 v45)) from by kernel_rfl)) (by kernel_rfl) (by kernel_rfl)
def fr72_18 : FF := [dT 4 ((tL (-1)) :: (dT 11 [])), dc]
theorem s72_17_t : X cp n i72_4 fr72_8 k = s72_17 cp n (k .ret fr72_18) := by kernel_rfl
def fr72_19 : FF := [dT 4 ((tL v47) :: (dT 11 [])), dc]
theorem s72_20_t : X cp n i72_5 (fr72_2 p0 p1) k = s72_20 cp n p0 p1 (fun v47 => k .ret (fr72_19 v47)) := tq (tq (congrArg (fun q => s72_16 cp n p0 p1 q (fun v46 => k .ret (fr72_19 v46))) ((s72_17_t cp n  k).trans (show _ = s72_17 cp n (k .ret (fr72_19 (-1))) from by kernel_rfl))) ((s72_16_t cp n p0 p1 (seqT (X cp n) i72_4 k)).trans (by kernel_rfl))) (by kernel_rfl)
def fr72_21 : FF := [dT 4 ((tL v48) :: (dT 11 [])), dc]
def fr72_23 : FF := [(.row false (.rSpan p0)) :: (.agg (eSpan p1)) :: (dT 14 []), dc]
theorem s72_22_t : X cp n i72_6 (fr72_23 p0 p1) k = s72_22 cp n p0 p1 (fun v48 => k .ret (fr72_21 v48)) := ch (fun q => s72_1 cp n p0 p1 q) (fun c => X cp n c (fr72_2 p0 p1) k) i72_5 (fun c => X cp n (.seq (.fin (.reg g72_0) [1, 4] []) c) (fr72_23 p0 p1) k) (fun c => by kernel_rfl) ((s72_20_t cp n p0 p1 k).trans (show _ = s72_20 cp n p0 p1 (fun v47 => k .ret (fr72_21 v47)) from by kernel_rfl)) (by kernel_rfl) (by kernel_rfl)
theorem run72 (cp : CP) (n : Nat) (p0 : (List SSpan)) (p1 : SSpan) (k : Ret2 RW → Option R) : G72 cp (n + 1) p0 p1 (fun r0 => k ⟨(tL r0), [], []⟩) = run2 U cp (callP cp n) n fn72 [.row false (.rSpan p0), .agg (eSpan p1)] [] k := ((X_run (f := fn72) (av := [.row false (.rSpan p0), .agg (eSpan p1)]) (cells := []) (code := i72_6) (fr := (fr72_23 p0 p1)) (k := k) (by kernel_rfl) (fun K => by kernel_rfl)).trans ((s72_22_t cp n p0 p1 (finK2 fn72 k)).trans (by kernel_rfl))).symm
end
/-! slices.Contains[[]tideway/api.Span,tideway/api.Span] -/
section
variable (cp : CP) (n : Nat) (k : KX R)
theorem run56 (cp : CP) (n : Nat) (p0 : (List SSpan)) (p1 : SSpan) (k : Ret2 RW → Option R) : G56 cp (n + 1) p0 p1 (fun r0 => k ⟨(tB r0), [], []⟩) = run2 U cp (callP cp n) n fn56 [.row false (.rSpan p0), .agg (eSpan p1)] [] k := by kernel_rfl
end
/-! tideway/recv.pieces -/
section
variable (cp : CP) (n : Nat) (p0 : SRecv) (v2 v3 v4 v6 v7 : Int) (v39 : (List SSpan)) (v40 v41 v44 : Int) (v45 v46 v47 v48 : Bool) (k : KX R)
def w28_0 : Fr := dT 2 ((.hdr 15) :: (sl 0 13 (eRecv p0)))
def w28_1 : Fr := sl 13 2 (eRecv p0) ++ (dT 14 [])
def fr28_2 : FF := [dT 1 ((.ptr 82 0) :: (dT 1 ((tL p0.xNext) :: (dT 12 [])))), dc, dc, dc, dc, w28_0 p0, w28_1 p0, dc]
def fr28_4 : FF := [dT 1 ((.ptr 82 0) :: (dT 1 ((tL p0.xNext) :: (dT 9 ([.row false (.rPiece p0.xLate), (tL v2), (tL 0)]))))), dc, dc, dc, dc, w28_0 p0, w28_1 p0, dc]
def fr28_6 : FF := [dT 1 ((.ptr 82 0) :: (dT 1 ((tL v6) :: (dT 9 ([.row false (.rPiece p0.xLate), (tL v2), (tL v7)]))))), dc, dc, dc, dc, w28_0 p0, w28_1 p0, dc]
def fr28_7 : FF := [dT 2 ((tB false) :: (dT 13 [])), dc, dc, dc, dc, dc, dc, dc]
def fr28_8 : FF := [dT 1 ((.ptr 82 0) :: (dT 14 [])), dc, dc, dc, dc, w28_0 p0, w28_1 p0, dc]
def fr28_9 : FF := [dT 1 ((.ptr 82 0) :: (dT 1 ((tL v3) :: (dT 9 ([.row false (.rPiece p0.xLate), (tL v2), (tL v4)]))))), dc, dc, dc, dc, w28_0 p0, w28_1 p0, dc]
theorem s28_5_t : X cp n i28_0 (fr28_9 p0 v2 v3 v4) k = s28_5 cp n p0 v2 v3 v4 (fun v6 v7 => k .norm (fr28_6 p0 v2 v6 v7)) (k .ret fr28_7) (k (.exit 0) (fr28_8 p0)) := by kernel_rfl
theorem l28_10_t (cp : CP) (n : Nat) : ∀ (m : Nat) (p0 : SRecv) (v2 v3 v4 : Int) (k : KX R), loopN2 (X cp n i28_0) m (fr28_9 p0 v2 v3 v4) k = l28_10 cp n m p0 v2 v3 v4 (k .ret fr28_7) (k (.exit 0) (fr28_8 p0))
  | 0, _, _, _, _, _ => rfl
  | m + 1, p0, v2, v3, v4, k => (loopN2_succ (X cp n i28_0) m (fr28_9 p0 v2 v3 v4) k).trans ((s28_5_t cp n p0 v2 v3 v4 (loopT (X cp n i28_0) m k)).trans (tq (congrArg (fun q => s28_5 cp n p0 v2 v3 v4 q (k .ret fr28_7) (k (.exit 0) (fr28_8 p0))) (funext fun v6 => funext fun v7 => l28_10_t cp n m p0 v2 v6 v7 k)) (by kernel_rfl)))
theorem s28_11_t : X cp n i28_1 (fr28_4 p0 v2) k = s28_11 cp n p0 v2 (k .ret fr28_7) (k (.exit 0) (fr28_8 p0)) := tq (l28_10_t cp n n p0 v2 p0.xNext 0 k) (by kernel_rfl)
theorem s28_12_t : X cp n i28_2 (fr28_4 p0 v2) k = s28_12 cp n p0 v2 (k .norm (fr28_8 p0)) (k .ret fr28_7) := tq ((s28_11_t cp n p0 v2 (blkT 0 k)).trans (by kernel_rfl)) (by kernel_rfl)
theorem s28_13_t : X cp n i28_3 (fr28_2 p0) k = s28_13 cp n p0 (k .norm (fr28_8 p0)) (k .ret fr28_7) := ch (fun q => s28_3 cp n p0 q) (fun c v2 => X cp n c (fr28_4 p0 v2) k) i28_2 (fun c => X cp n (.seq (.fin (.reg g28_2) [12] []) c) (fr28_2 p0) k) (fun c => by kernel_rfl) (funext fun v2 => s28_12_t cp n p0 v2 k) (by kernel_rfl) (by kernel_rfl)
def w28_2 : Fr := dT 1 ((.ptr 82 0) :: (dT 5 ((.row false (.rSpan v39)) :: (dT 8 []))))
def fr28_15 : FF := [w28_2 v39, dc, dc, dc, dc, w28_0 p0, w28_1 p0, dc]
def w28_3 : Fr := dT 14 ([.row false (.rSpan p0.xFirst), (tL v40)])
def fr28_17 : FF := [w28_2 v39, dc, dc, w28_3 p0 v40, (tL 0) :: (dT 15 []), w28_0 p0, w28_1 p0, dc]
def fr28_19 : FF := [w28_2 v39, dc, dc, w28_3 p0 v40, (tL v44) :: (dT 15 []), w28_0 p0, w28_1 p0, dc]
def fr28_20 : FF := [dc, dc, dc, dc, dc, dc, dc, dc]
def fr28_21 : FF := [w28_2 v39, dc, dc, w28_3 p0 v40, (tL v41) :: (dT 15 []), w28_0 p0, w28_1 p0, dc]
theorem s28_18_t : X cp n i28_4 (fr28_21 p0 v39 v40 v41) k = s28_18 cp n p0 v39 v40 v41 (fun v44 => k .norm (fr28_19 p0 v39 v40 v44)) (k .ret fr28_7) (k (.exit 2) fr28_20) := by kernel_rfl
theorem l28_22_t (cp : CP) (n : Nat) : ∀ (m : Nat) (p0 : SRecv) (v39 : (List SSpan)) (v40 v41 : Int) (k : KX R), loopN2 (X cp n i28_4) m (fr28_21 p0 v39 v40 v41) k = l28_22 cp n m p0 v39 v40 v41 (k .ret fr28_7) (k (.exit 2) fr28_20)
  | 0, _, _, _, _, _ => rfl
  | m + 1, p0, v39, v40, v41, k => (loopN2_succ (X cp n i28_4) m (fr28_21 p0 v39 v40 v41) k).trans ((s28_18_t cp n p0 v39 v40 v41 (loopT (X cp n i28_4) m k)).trans (tq (congrArg (fun q => s28_18 cp n p0 v39 v40 v41 q (k .ret fr28_7) (k (.exit 2) fr28_20)) (funext fun v44 => l28_22_t cp n m p0 v39 v40 v44 k)) (by kernel_rfl)))
theorem s28_23_t : X cp n i28_5 (fr28_17 p0 v39 v40) k = s28_23 cp n p0 v39 v40 (k .ret fr28_7) (k (.exit 2) fr28_20) := tq (l28_22_t cp n n p0 v39 v40 0 k) (by kernel_rfl)
theorem s28_24_t : X cp n i28_6 (fr28_17 p0 v39 v40) k = s28_24 cp n p0 v39 v40 (k .norm fr28_20) (k .ret fr28_7) := tq ((s28_23_t cp n p0 v39 v40 (blkT 2 k)).trans (by kernel_rfl)) (by kernel_rfl)
theorem s28_25_t : X cp n i28_7 (fr28_15 p0 v39) k = s28_25 cp n p0 v39 (k .norm fr28_20) (k .ret fr28_7) := ch (fun q => s28_16 cp n p0 v39 q) (fun c v40 => X cp n c (fr28_17 p0 v39 v40) k) i28_6 (fun c => X cp n (.seq (.fin (.reg g28_11) [61] []) c) (fr28_15 p0 v39) k) (fun c => by kernel_rfl) (funext fun v40 => s28_24_t cp n p0 v39 v40 k) (by kernel_rfl) (by kernel_rfl)
def fr28_27 : FF := [dT 2 ((tB true) :: (dT 13 [])), dc, dc, dc, dc, dc, dc, dc]
theorem s28_26_t : X cp n i28_8 fr28_20 k = s28_26 cp n (k .ret fr28_27) := by kernel_rfl
def fr28_28 : FF := [dT 2 ((tB v45) :: (dT 13 [])), dc, dc, dc, dc, dc, dc, dc]
theorem s28_29_t : X cp n i28_9 (fr28_15 p0 v39) k = s28_29 cp n p0 v39 (fun v45 => k .ret (fr28_28 v45)) := tq (tq (congrArg (fun q => s28_25 cp n p0 v39 q (k .ret (fr28_28 false))) ((s28_26_t cp n  k).trans (show _ = s28_26 cp n (k .ret (fr28_28 true)) from by kernel_rfl))) ((s28_25_t cp n p0 v39 (seqT (X cp n) i28_8 k)).trans (by kernel_rfl))) (by kernel_rfl)
def fr28_30 : FF := [dT 2 ((tB v46) :: (dT 13 [])), dc, dc, dc, dc, dc, dc, dc]
theorem s28_31_t : X cp n i28_10 (fr28_8 p0) k = s28_31 cp n p0 (fun v46 => k .ret (fr28_30 v46)) := ch (fun q => s28_14 cp n p0 q) (fun c v39 => X cp n c (fr28_15 p0 v39) k) i28_9 (fun c => X cp n (.seq (.fin (.reg g28_10) [58, 59, 60] [(104, 15)]) c) (fr28_8 p0) k) (fun c => by kernel_rfl) (funext fun v39 => (s28_29_t cp n p0 v39 k).trans (show _ = s28_29 cp n p0 v39 (fun v45 => k .ret (fr28_30 v45)) from by kernel_rfl)) (by kernel_rfl) (by kernel_rfl)
def fr28_32 : FF := [dT 2 ((tB v47) :: (dT 13 [])), dc, dc, dc, dc, dc, dc, dc]
theorem s28_33_t : X cp n i28_11 (fr28_2 p0) k = s28_33 cp n p0 (fun v47 => k .ret (fr28_32 v47)) := tq (tq (congrArg (fun q => s28_13 cp n p0 q (k .ret (fr28_32 false))) ((s28_31_t cp n p0 k).trans (show _ = s28_31 cp n p0 (fun v46 => k .ret (fr28_32 v46)) from by kernel_rfl))) ((s28_13_t cp n p0 (seqT (X cp n) i28_10 k)).trans (by kernel_rfl))) (by kernel_rfl)
def fr28_34 : FF := [dT 2 ((tB v48) :: (dT 13 [])), dc, dc, dc, dc, dc, dc, dc]
def fr28_36 : FF := [(.agg (eRecv p0)) :: (dT 15 []), dc, dc, dc, dc, dc, dc, dc]
theorem s28_35_t : X cp n i28_12 (fr28_36 p0) k = s28_35 cp n p0 (fun v48 => k .ret (fr28_34 v48)) := ch (fun q => s28_1 cp n p0 q) (fun c => X cp n c (fr28_2 p0) k) i28_11 (fun c => X cp n (.seq (.fin (.reg g28_0) [0, 2] []) (.seq (.fin (.reg g28_1) [10, 11] []) c)) (fr28_36 p0) k) (fun c => by kernel_rfl) ((s28_33_t cp n p0 k).trans (show _ = s28_33 cp n p0 (fun v47 => k .ret (fr28_34 v47)) from by kernel_rfl)) (by kernel_rfl) (by kernel_rfl)
theorem run28 (cp : CP) (n : Nat) (p0 : SRecv) (k : Ret2 RW → Option R) : G28 cp (n + 1) p0 (fun r0 => k ⟨(tB r0), [], []⟩) = run2 U cp (callP cp n) n fn28 [.agg (eRecv p0)] [] k := ((X_run (f := fn28) (av := [.agg (eRecv p0)]) (cells := []) (code := i28_12) (fr := (fr28_36 p0)) (k := k) (by kernel_rfl) (fun K => by kernel_rfl)).trans ((s28_35_t cp n p0 (finK2 fn28 k)).trans (by kernel_rfl))).symm
end
/-! tideway/recv.Check -/
section
variable (cp : CP) (n : Nat) (p0 : SRecv) (v3 v4 v5 : Int) (k : KX R)
def fr10_2 : FF := [dT 1 ((.ptr 102 0) :: (dT 14 [])), dc, dc, dc, dc, dc, dT 6 ((.hdr 15) :: (sl 0 9 (eRecv p0))), sl 9 6 (eRecv p0) ++ (dT 10 [])]
def fr10_4 : FF := [dT 2 ((tL 230) :: (dT 13 [])), dc, dc, dc, dc, dc, dc, dc]
def fr10_6 : FF := [dT 2 ((tL v3) :: (dT 13 [])), dc, dc, dc, dc, dc, dc, dc]
theorem s10_5_t : X cp n i10_0 (fr10_2 p0) k = s10_5 cp n p0 (fun v3 => k .ret (fr10_6 v3)) := by kernel_rfl
def fr10_7 : FF := [dT 2 ((tL v4) :: (dT 13 [])), dc, dc, dc, dc, dc, dc, dc]
theorem s10_8_t : X cp n i10_1 (fr10_2 p0) k = s10_8 cp n p0 (fun v4 => k .ret (fr10_7 v4)) := ch (fun q => s10_3 cp n p0 q (k .ret (fr10_7 230))) (fun c => X cp n c (fr10_2 p0) k) i10_0 (fun c => X cp n (.seq (.fin (.reg g10_1) [4, 5, 6, 7, 8, 9, 10, 11, 12, 13, 14, 15, 16, 17, 18, 19, 20, 21, 22, 23, 24, 25, 26, 27, 28, 29, 30, 31, 32, 33, 34, 35, 36, 37, 38, 39, 40, 41, 42] []) (.seq (.seq (.fin (.reg g10_2) [3, 43, 44, 45, 46, 47, 48, 49, 50, 51, 52, 53, 54, 55, 56, 57, 58, 59, 60, 61, 62, 63, 64, 65, 66, 67, 68, 69, 70, 71, 72, 73, 74, 75, 76, 77] []) (.fin (.cond (.s 78) (.seq (.fin (.reg g10_3) [1, 78] [(102, 15)]) (.ret)) (.skip)) [78] [])) c)) (fr10_2 p0) k) (fun c => by kernel_rfl) ((s10_5_t cp n p0 k).trans (show _ = s10_5 cp n p0 (fun v3 => k .ret (fr10_7 v3)) from by kernel_rfl)) (by kernel_rfl) (by kernel_rfl)
def fr10_9 : FF := [dT 2 ((tL v5) :: (dT 13 [])), dc, dc, dc, dc, dc, dc, dc]
def fr10_11 : FF := [(.agg (eRecv p0)) :: (dT 15 []), dc, dc, dc, dc, dc, dc, dc]
theorem s10_10_t : X cp n i10_2 (fr10_11 p0) k = s10_10 cp n p0 (fun v5 => k .ret (fr10_9 v5)) := ch (fun q => s10_1 cp n p0 q) (fun c => X cp n c (fr10_2 p0) k) i10_1 (fun c => X cp n (.seq (.fin (.reg g10_0) [0, 2] []) c) (fr10_11 p0) k) (fun c => by kernel_rfl) ((s10_8_t cp n p0 k).trans (show _ = s10_8 cp n p0 (fun v4 => k .ret (fr10_9 v4)) from by kernel_rfl)) (by kernel_rfl) (by kernel_rfl)
theorem run10 (cp : CP) (n : Nat) (p0 : SRecv) (k : Ret2 RW → Option R) : G10 cp (n + 1) p0 (fun r0 => k ⟨(tL r0), [], []⟩) = run2 U cp (callP cp n) n fn10 [.agg (eRecv p0)] [] k := ((X_run (f := fn10) (av := [.agg (eRecv p0)]) (cells := []) (code := i10_2) (fr := (fr10_11 p0)) (k := k) (by kernel_rfl) (fun K => by kernel_rfl)).trans ((s10_10_t cp n p0 (finK2 fn10 k)).trans (by kernel_rfl))).symm
end
/-! tideway/recv.copied -/
section
variable (cp : CP) (n : Nat) (p0 : SRecv) (v10 : (List Int)) (v11 : (List SSpan)) (v12 v13 : Int) (v14 : (List SPiece)) (v16 : Int) (v17 v18 v19 v20 v21 : (List SPiece)) (v22 : SRecv) (k : KX R)
def w29_0 : Fr := dT 5 ([.hdr 15, (tL p0.xNext), .row true (.ruint8 v10), .row true (.rPiece []), (tL p0.xCap), (tL p0.xShift), (tL p0.xEdge), (tI .u32 p0.xRecent), (tB p0.xStamps), (tB p0.xSacks), (tL p0.xFin)])
def w29_1 : Fr := [(tB p0.xDone), .row true (.rSpan v11), (tI .u32 p0.xIrs), (tI .u32 p0.xOwn), (tB p0.xStamp), .hdr 15, (tL 0), .row true (.ruint8 []), .row true (.rPiece []), (tL 0), (tL 0), (tL 0), (tI .u32 0), (tB false), (tB false), (tL 0)]
def w29_2 : Fr := (tB false) :: (.row true (.rSpan [])) :: (tI .u32 0) :: (tI .u32 0) :: (tB false) :: (dT 11 [])
def fr29_2 : FF := [dT 1 ((.ptr 37 0) :: (.ptr 53 0) :: (.row false (.rPiece p0.xLate)) :: (dT 12 [])), dc, w29_0 p0 v10, w29_1 p0 v11, w29_2]
def w29_3 : Fr := dT 1 ((.ptr 37 0) :: (.ptr 53 0) :: (dT 13 []))
def fr29_4 : FF := [w29_3, dT 2 ((.row false (.rPiece p0.xLate)) :: (tL v12) :: (tL 0) :: (dT 11 [])), w29_0 p0 v10, w29_1 p0 v11, w29_2]
def fr29_6 : FF := [w29_3, dT 2 ((.row false (.rPiece p0.xLate)) :: (tL v12) :: (tL v16) :: (dT 11 [])), dT 5 ([.hdr 15, (tL p0.xNext), .row true (.ruint8 v10), .row true (.rPiece v17), (tL p0.xCap), (tL p0.xShift), (tL p0.xEdge), (tI .u32 p0.xRecent), (tB p0.xStamps), (tB p0.xSacks), (tL p0.xFin)]), w29_1 p0 v11, w29_2]
def w29_4 : Fr := dT 5 ([.hdr 15, (tL p0.xNext), .row true (.ruint8 v10), .row true (.rPiece v14), (tL p0.xCap), (tL p0.xShift), (tL p0.xEdge), (tI .u32 p0.xRecent), (tB p0.xStamps), (tB p0.xSacks), (tL p0.xFin)])
def fr29_7 : FF := [w29_3, dc, w29_4 p0 v10 v14, w29_1 p0 v11, w29_2]
def fr29_8 : FF := [w29_3, dT 2 ((.row false (.rPiece p0.xLate)) :: (tL v12) :: (tL v13) :: (dT 11 [])), w29_4 p0 v10 v14, w29_1 p0 v11, w29_2]
theorem s29_5_t : X cp n i29_0 (fr29_8 p0 v10 v11 v12 v13 v14) k = s29_5 cp n p0 v10 v11 v12 v13 v14 (fun v16 v17 => k .norm (fr29_6 p0 v10 v11 v12 v16 v17)) (k (.exit 0) (fr29_7 p0 v10 v11 v14)) := by kernel_rfl
def fr29_9 : FF := [w29_3, dc, dT 5 ([.hdr 15, (tL p0.xNext), .row true (.ruint8 v10), .row true (.rPiece v18), (tL p0.xCap), (tL p0.xShift), (tL p0.xEdge), (tI .u32 p0.xRecent), (tB p0.xStamps), (tB p0.xSacks), (tL p0.xFin)]), w29_1 p0 v11, w29_2]
theorem l29_10_t (cp : CP) (n : Nat) : ∀ (m : Nat) (p0 : SRecv) (v10 : (List Int)) (v11 : (List SSpan)) (v12 v13 : Int) (v14 : (List SPiece)) (k : KX R), loopN2 (X cp n i29_0) m (fr29_8 p0 v10 v11 v12 v13 v14) k = l29_10 cp n m p0 v10 v11 v12 v13 v14 (fun v18 => k (.exit 0) (fr29_9 p0 v10 v11 v18))
  | 0, _, _, _, _, _, _, _ => rfl
  | m + 1, p0, v10, v11, v12, v13, v14, k => (loopN2_succ (X cp n i29_0) m (fr29_8 p0 v10 v11 v12 v13 v14) k).trans ((s29_5_t cp n p0 v10 v11 v12 v13 v14 (loopT (X cp n i29_0) m k)).trans (tq (congrArg (fun q => s29_5 cp n p0 v10 v11 v12 v13 v14 q (k (.exit 0) (fr29_9 p0 v10 v11 v14))) (funext fun v16 => funext fun v17 => l29_10_t cp n m p0 v10 v11 v12 v16 v17 k)) (by kernel_rfl)))
theorem s29_11_t : X cp n i29_1 (fr29_4 p0 v10 v11 v12) k = s29_11 cp n p0 v10 v11 v12 (fun v18 => k (.exit 0) (fr29_9 p0 v10 v11 v18)) := tq (l29_10_t cp n n p0 v10 v11 v12 0 [] k) (by kernel_rfl)
def fr29_12 : FF := [w29_3, dc, dT 5 ([.hdr 15, (tL p0.xNext), .row true (.ruint8 v10), .row true (.rPiece v19), (tL p0.xCap), (tL p0.xShift), (tL p0.xEdge), (tI .u32 p0.xRecent), (tB p0.xStamps), (tB p0.xSacks), (tL p0.xFin)]), w29_1 p0 v11, w29_2]
theorem s29_13_t : X cp n i29_2 (fr29_4 p0 v10 v11 v12) k = s29_13 cp n p0 v10 v11 v12 (fun v19 => k .norm (fr29_12 p0 v10 v11 v19)) := tq ((s29_11_t cp n p0 v10 v11 v12 (blkT 0 k)).trans (by kernel_rfl)) (by kernel_rfl)
def w29_5 : Fr := dT 5 ([.hdr 15, (tL p0.xNext), .row true (.ruint8 v10), .row true (.rPiece v20), (tL p0.xCap), (tL p0.xShift), (tL p0.xEdge), (tI .u32 p0.xRecent), (tB p0.xStamps), (tB p0.xSacks), (tL p0.xFin)])
def fr29_14 : FF := [w29_3, dc, w29_5 p0 v10 v20, w29_1 p0 v11, w29_2]
theorem s29_15_t : X cp n i29_3 (fr29_2 p0 v10 v11) k = s29_15 cp n p0 v10 v11 (fun v20 => k .norm (fr29_14 p0 v10 v11 v20)) := ch (fun q => s29_3 cp n p0 v10 v11 q) (fun c v12 => X cp n c (fr29_4 p0 v10 v11 v12) k) i29_2 (fun c => X cp n (.seq (.fin (.reg g29_5) [3] []) c) (fr29_2 p0 v10 v11) k) (fun c => by kernel_rfl) (funext fun v12 => (s29_13_t cp n p0 v10 v11 v12 k).trans (show _ = s29_13 cp n p0 v10 v11 v12 (fun v19 => k .norm (fr29_14 p0 v10 v11 v19)) from by kernel_rfl)) (by kernel_rfl) (by kernel_rfl)
def w29_6 : Fr := dT 2 ((.ptr 53 0) :: (dT 13 []))
def w29_7 : Fr := (tB p0.xDone) :: (.row true (.rSpan v11)) :: (tI .u32 p0.xIrs) :: (tI .u32 p0.xOwn) :: (tB p0.xStamp) :: (dT 11 [])
def fr29_17 : FF := [w29_6, dc, dc, w29_5 p0 v10 v20, w29_7 p0 v11]
theorem s29_16_t : X cp n i29_4 (fr29_14 p0 v10 v11 v20) k = s29_16 cp n p0 v10 v11 v20 (k .ret (fr29_17 p0 v10 v11 v20)) := by kernel_rfl
def fr29_18 : FF := [w29_6, dc, dc, dT 5 ([.hdr 15, (tL p0.xNext), .row true (.ruint8 v10), .row true (.rPiece v21), (tL p0.xCap), (tL p0.xShift), (tL p0.xEdge), (tI .u32 p0.xRecent), (tB p0.xStamps), (tB p0.xSacks), (tL p0.xFin)]), w29_7 p0 v11]
theorem s29_19_t : X cp n i29_5 (fr29_2 p0 v10 v11) k = s29_19 cp n p0 v10 v11 (fun v21 => k .ret (fr29_18 p0 v10 v11 v21)) := tq (tq (congrArg (fun q => s29_15 cp n p0 v10 v11 q) (funext fun v20 => (s29_16_t cp n p0 v10 v11 v20 k).trans (show _ = s29_16 cp n p0 v10 v11 v20 (k .ret (fr29_18 p0 v10 v11 v20)) from by kernel_rfl))) ((s29_15_t cp n p0 v10 v11 (seqT (X cp n) i29_4 k)).trans (by kernel_rfl))) (by kernel_rfl)
def fr29_20 : FF := [w29_6, dc, dc, dT 5 ((.hdr 15) :: (sl 0 10 (eRecvt v22))), sl 10 5 (eRecvt v22) ++ (dT 11 [])]
def fr29_22 : FF := [(.agg (eRecv p0)) :: (dT 15 []), dc, dc, dc, dc]
theorem s29_21_t : X cp n i29_6 (fr29_22 p0) k = s29_21 cp n p0 (fun v22 => k .ret (fr29_20 v22)) := ch (fun q => s29_1 cp n p0 q) (fun c v10 v11 => X cp n c (fr29_2 p0 v10 v11) k) i29_5 (fun c => X cp n (.seq (.fin (.reg g29_0) [0] []) (.seq (.fin (.reg g29_1) [6, 7, 8, 9, 10] []) (.seq (.fin (.reg g29_2) [11, 12, 13, 14] []) (.seq (.fin (.reg g29_3) [15, 16] []) (.seq (.fin (.reg g29_4) [17] []) c))))) (fr29_22 p0) k) (fun c => by kernel_rfl) (funext fun v10 => funext fun v11 => (s29_19_t cp n p0 v10 v11 k).trans (show _ = s29_19 cp n p0 v10 v11 (fun v21 => k .ret (fr29_20 (SRecv.mk p0.xNext v10 v21 p0.xCap p0.xShift p0.xEdge p0.xRecent p0.xStamps p0.xSacks p0.xFin p0.xDone v11 p0.xIrs p0.xOwn p0.xStamp))) from by kernel_rfl)) (by kernel_rfl) (by kernel_rfl)
theorem run29 (cp : CP) (n : Nat) (p0 : SRecv) (k : Ret2 RW → Option R) : G29 cp (n + 1) p0 (fun r0 => k ⟨.agg (eRecvt r0), [], []⟩) = run2 U cp (callP cp n) n fn29 [.agg (eRecv p0)] [] k := ((X_run (f := fn29) (av := [.agg (eRecv p0)]) (cells := []) (code := i29_6) (fr := (fr29_22 p0)) (k := k) (by kernel_rfl) (fun K => by kernel_rfl)).trans ((s29_21_t cp n p0 (finK2 fn29 k)).trans (by kernel_rfl))).symm
end
/-! tideway/seq.Clamp -/
section
variable (cp : CP) (n : Nat) (k : KX R)
theorem run51 (cp : CP) (n : Nat) (p0 p1 p2 : Int) (k : Ret2 RW → Option R) : G51 cp (n + 1) p0 p1 p2 (fun r0 => k ⟨(tL r0), [], []⟩) = run2 U cp (callP cp n) n fn51 [(tL p0), (tL p1), (tL p2)] [] k := by kernel_rfl
end
/-! tideway/recv.window -/
section
variable (cp : CP) (n : Nat) (k : KX R)
theorem run49 (cp : CP) (n : Nat) (p0 : SRecv) (k : Ret2 RW → Option R) : G49 cp (n + 1) p0 (fun r0 => k ⟨(tL r0), [], []⟩) = run2 U cp (callP cp n) n fn49 [.agg (eRecv p0)] [] k := by kernel_rfl
end
/-! tideway/seq.Add -/
section
variable (cp : CP) (n : Nat) (k : KX R)
theorem run36 (cp : CP) (n : Nat) (p0 p1 : Int) (k : Ret2 RW → Option R) : G36 cp (n + 1) p0 p1 (fun r0 => k ⟨(tI .u32 r0), [], []⟩) = run2 U cp (callP cp n) n fn36 [(tI .u32 p0), (tL p1)] [] k := by kernel_rfl
end
/-! tideway/recv.tell -/
section
variable (cp : CP) (n : Nat) (p0 : SRecv) (p1 : (List SBlock)) (v31 : Int) (v32 : SSegment) (v33 v34 : Int) (v35 : (List SBlock)) (v38 : Int) (v39 v40 v41 v42 : (List SBlock)) (v44 v45 : Int) (v46 : (List SBlock)) (v47 : Int) (v48 : SSegment) (k : KX R)
def w32_0 : Fr := dT 2 ((.ptr 82 0) :: (dT 1 ((.ptr 98 0) :: (.ptr 114 0) :: (dT 1 ((.ptr 130 0) :: (tL v31) :: (dT 7 []))))))
def w32_1 : Fr := dT 2 ((.hdr 15) :: (sl 0 13 (eRecv p0)))
def w32_2 : Fr := sl 13 2 (eRecv p0) ++ [.hdr 15, (tL 0), .row true (.ruint8 []), .row true (.rPiece []), (tL 0), (tL 0), (tL 0), (tI .u32 0), (tB false), (tB false), (tL 0), (tB false), .row true (.rSpan []), (tI .u32 0)]
def w32_3 : Fr := [(tI .u32 0), (tB false), .hdr 15, (tL 0), (tL 0), (tI .u32 0), (tI .u32 0), (tL 0), (tL 0), (tL 0), (tL 0), (tL 0), (tB false), (tB false), (tI .u32 0), (tI .u32 0)]
def w32_4 : Fr := [.row true (.rBlock []), .row true (.ruint8 []), .hdr 15, (tL v32.xSrcPort), (tL v32.xDstPort), (tI .u32 v32.xSeq), (tI .u32 v32.xAck), (tL v32.xFlags), (tL v32.xWin), (tL v32.xUrg), (tL v32.xMss), (tL v32.xScale), (tB v32.xSackOk), (tB v32.xStamped), (tI .u32 v32.xVal), (tI .u32 v32.xEcr)]
def w32_5 : Fr := (.row true (.rBlock v32.xSacks)) :: (.row false (.ruint8 v32.xData)) :: (dT 14 [])
def fr32_2 : FF := [w32_0 v31, dc, dc, dc, dc, w32_1 p0, w32_2 p0, w32_3, w32_4 v32, w32_5 v32]
def fr32_4 : FF := [w32_0 v31, dc, dT 7 ((.row false (.rSpan p0.xFirst)) :: (tL v33) :: (tL 0) :: (dT 6 [])), dc, dc, w32_1 p0, w32_2 p0, w32_3, w32_4 v32, w32_5 v32]
def fr32_6 : FF := [w32_0 v31, dc, dT 7 ((.row false (.rSpan p0.xFirst)) :: (tL v33) :: (tL v38) :: (dT 6 [])), dc, dc, w32_1 p0, w32_2 p0, w32_3, w32_4 v32, (.row true (.rBlock v39)) :: (.row false (.ruint8 v32.xData)) :: (dT 14 [])]
def w32_6 : Fr := dT 2 ((.ptr 82 0) :: (dT 1 ((.ptr 98 0) :: (.ptr 114 0) :: (dT 1 ((.ptr 130 0) :: (dT 8 []))))))
def w32_7 : Fr := (.row true (.rBlock v35)) :: (.row false (.ruint8 v32.xData)) :: (dT 14 [])
def fr32_7 : FF := [w32_6, dc, dc, dc, dc, w32_1 p0, w32_2 p0, w32_3, w32_4 v32, w32_7 v32 v35]
def fr32_8 : FF := [w32_0 v31, dc, dT 7 ((.row false (.rSpan p0.xFirst)) :: (tL v33) :: (tL v34) :: (dT 6 [])), dc, dc, w32_1 p0, w32_2 p0, w32_3, w32_4 v32, w32_7 v32 v35]
theorem s32_5_t : X cp n i32_0 (fr32_8 p0 v31 v32 v33 v34 v35) k = s32_5 cp n p0 v31 v32 v33 v34 v35 (fun v38 v39 => k .norm (fr32_6 p0 v31 v32 v33 v38 v39)) (k (.exit 0) (fr32_7 p0 v32 v35)) := by kernel_rfl
def fr32_9 : FF := [w32_6, dc, dc, dc, dc, w32_1 p0, w32_2 p0, w32_3, w32_4 v32, (.row true (.rBlock v40)) :: (.row false (.ruint8 v32.xData)) :: (dT 14 [])]
theorem l32_10_t (cp : CP) (n : Nat) : ∀ (m : Nat) (p0 : SRecv) (v31 : Int) (v32 : SSegment) (v33 v34 : Int) (v35 : (List SBlock)) (k : KX R), loopN2 (X cp n i32_0) m (fr32_8 p0 v31 v32 v33 v34 v35) k = l32_10 cp n m p0 v31 v32 v33 v34 v35 (fun v40 => k (.exit 0) (fr32_9 p0 v32 v40))
  | 0, _, _, _, _, _, _, _ => rfl
  | m + 1, p0, v31, v32, v33, v34, v35, k => (loopN2_succ (X cp n i32_0) m (fr32_8 p0 v31 v32 v33 v34 v35) k).trans ((s32_5_t cp n p0 v31 v32 v33 v34 v35 (loopT (X cp n i32_0) m k)).trans (tq (congrArg (fun q => s32_5 cp n p0 v31 v32 v33 v34 v35 q (k (.exit 0) (fr32_9 p0 v32 v35))) (funext fun v38 => funext fun v39 => l32_10_t cp n m p0 v31 v32 v33 v38 v39 k)) (by kernel_rfl)))
theorem s32_11_t : X cp n i32_1 (fr32_4 p0 v31 v32 v33) k = s32_11 cp n p0 v31 v32 v33 (fun v40 => k (.exit 0) (fr32_9 p0 v32 v40)) := tq (l32_10_t cp n n p0 v31 v32 v33 0 v32.xSacks k) (by kernel_rfl)
def fr32_12 : FF := [w32_6, dc, dc, dc, dc, w32_1 p0, w32_2 p0, w32_3, w32_4 v32, (.row true (.rBlock v41)) :: (.row false (.ruint8 v32.xData)) :: (dT 14 [])]
theorem s32_13_t : X cp n i32_2 (fr32_4 p0 v31 v32 v33) k = s32_13 cp n p0 v31 v32 v33 (fun v41 => k .norm (fr32_12 p0 v32 v41)) := tq ((s32_11_t cp n p0 v31 v32 v33 (blkT 0 k)).trans (by kernel_rfl)) (by kernel_rfl)
def w32_8 : Fr := (.row true (.rBlock v42)) :: (.row false (.ruint8 v32.xData)) :: (dT 14 [])
def fr32_14 : FF := [w32_6, dc, dc, dc, dc, w32_1 p0, w32_2 p0, w32_3, w32_4 v32, w32_8 v32 v42]
theorem s32_15_t : X cp n i32_3 (fr32_2 p0 v31 v32) k = s32_15 cp n p0 v31 v32 (fun v42 => k .norm (fr32_14 p0 v32 v42)) := ch (fun q => s32_3 cp n p0 v31 v32 q) (fun c v33 => X cp n c (fr32_4 p0 v31 v32 v33) k) i32_2 (fun c => X cp n (.seq (.fin (.reg g32_9) [38] []) c) (fr32_2 p0 v31 v32) k) (fun c => by kernel_rfl) (funext fun v33 => (s32_13_t cp n p0 v31 v32 v33 k).trans (show _ = s32_13 cp n p0 v31 v32 v33 (fun v41 => k .norm (fr32_14 p0 v32 v41)) from by kernel_rfl)) (by kernel_rfl) (by kernel_rfl)
def w32_9 : Fr := dT 4 ((.ptr 98 0) :: (.ptr 114 0) :: (dT 10 []))
def w32_10 : Fr := [(tI .u32 p0.xOwn), (tB p0.xStamp), .hdr 15, (tL v32.xSrcPort), (tL v32.xDstPort), (tI .u32 v32.xSeq), (tI .u32 v32.xAck), (tL v32.xFlags), (tL v32.xWin), (tL v32.xUrg), (tL v32.xMss), (tL v32.xScale), (tB v32.xSackOk), (tB v32.xStamped), (tI .u32 v32.xVal), (tI .u32 v32.xEcr)]
def fr32_17 : FF := [w32_9, dc, dc, dc, dc, dc, dT 2 ([.hdr 15, (tL p0.xNext), .row false (.ruint8 p0.xUnread), .row false (.rPiece p0.xLate), (tL p0.xCap), (tL p0.xShift), (tL v44), (tI .u32 p0.xRecent), (tB p0.xStamps), (tB p0.xSacks), (tL p0.xFin), (tB p0.xDone), .row false (.rSpan p0.xFirst), (tI .u32 p0.xIrs)]), w32_10 p0 v32, w32_8 v32 v42, dc]
theorem s32_16_t : X cp n i32_4 (fr32_14 p0 v32 v42) k = s32_16 cp n p0 v32 v42 (fun v44 => k .ret (fr32_17 p0 v32 v42 v44)) := by kernel_rfl
def fr32_18 : FF := [w32_9, dc, dc, dc, dc, dc, dT 2 ([.hdr 15, (tL p0.xNext), .row false (.ruint8 p0.xUnread), .row false (.rPiece p0.xLate), (tL p0.xCap), (tL p0.xShift), (tL v45), (tI .u32 p0.xRecent), (tB p0.xStamps), (tB p0.xSacks), (tL p0.xFin), (tB p0.xDone), .row false (.rSpan p0.xFirst), (tI .u32 p0.xIrs)]), w32_10 p0 v32, (.row true (.rBlock v46)) :: (.row false (.ruint8 v32.xData)) :: (dT 14 []), dc]
theorem s32_19_t : X cp n i32_5 (fr32_2 p0 v31 v32) k = s32_19 cp n p0 v31 v32 (fun v45 v46 => k .ret (fr32_18 p0 v32 v45 v46)) := tq (tq (congrArg (fun q => s32_15 cp n p0 v31 v32 q) (funext fun v42 => (s32_16_t cp n p0 v32 v42 k).trans (show _ = s32_16 cp n p0 v32 v42 (fun v44 => k .ret (fr32_18 p0 v32 v44 v42)) from by kernel_rfl))) ((s32_15_t cp n p0 v31 v32 (seqT (X cp n) i32_4 k)).trans (by kernel_rfl))) (by kernel_rfl)
def fr32_20 : FF := [w32_9, dc, dc, dc, dc, dc, dT 2 ([.hdr 15, (tL p0.xNext), .row false (.ruint8 p0.xUnread), .row false (.rPiece p0.xLate), (tL p0.xCap), (tL p0.xShift), (tL v47), (tI .u32 p0.xRecent), (tB p0.xStamps), (tB p0.xSacks), (tL p0.xFin), (tB p0.xDone), .row false (.rSpan p0.xFirst), (tI .u32 p0.xIrs)]), [(tI .u32 p0.xOwn), (tB p0.xStamp), .hdr 15, (tL v48.xSrcPort), (tL v48.xDstPort), (tI .u32 v48.xSeq), (tI .u32 v48.xAck), (tL v48.xFlags), (tL v48.xWin), (tL v48.xUrg), (tL v48.xMss), (tL v48.xScale), (tB v48.xSackOk), (tB v48.xStamped), (tI .u32 v48.xVal), (tI .u32 v48.xEcr)], (.row true (.rBlock v48.xSacks)) :: (.row false (.ruint8 v48.xData)) :: (dT 14 []), dc]
def fr32_22 : FF := [(.agg (eRecv p0)) :: (.row true (.rBlock p1)) :: (dT 14 []), dc, dc, dc, dc, dc, dc, dc, dc, dc]
theorem s32_21_t : X cp n i32_6 (fr32_22 p0 p1) k = s32_21 cp n p0 p1 (fun v47 v48 => k .ret (fr32_20 p0 v47 v48)) := ch (fun q => s32_1 cp n p0 p1 q) (fun c v31 v32 => X cp n c (fr32_2 p0 v31 v32) k) i32_5 (fun c => X cp n (.seq (.fin (.reg g32_0) [0] []) (.seq (.fin (.reg g32_1) [11, 12] []) (.seq (.seq (.fin (.reg g32_2) [13] []) (.fin (.cond (.s 14) (.fin (.reg g32_3) [14, 15, 16] []) (.skip)) [14] [])) (.seq (.fin (.reg g32_4) [1, 6, 17, 18, 19, 20, 21, 22, 23, 24, 25, 26, 27, 28, 29] []) (.seq (.reg g32_5) (.seq (.seq (.fin (.reg g32_6) [30] []) (.fin (.cond (.s 31) (.seq (.fin (.reg g32_7) [31, 32, 33, 34, 35] []) (.fin (.reg g32_8) [36, 37] [])) (.skip)) [31] [])) c)))))) (fr32_22 p0 p1) k) (fun c => by kernel_rfl) (funext fun v31 => funext fun v32 => (s32_19_t cp n p0 v31 v32 k).trans (show _ = s32_19 cp n p0 v31 v32 (fun v45 v46 => k .ret (fr32_20 p0 v45 (SSegment.mk v32.xSrcPort v32.xDstPort v32.xSeq v32.xAck v32.xFlags v32.xWin v32.xUrg v32.xMss v32.xScale v32.xSackOk v32.xStamped v32.xVal v32.xEcr v46 v32.xData))) from by kernel_rfl)) (by kernel_rfl) (by kernel_rfl)
theorem run32 (cp : CP) (n : Nat) (p0 : SRecv) (p1 : (List SBlock)) (k : Ret2 RW → Option R) : G32 cp (n + 1) p0 p1 (fun r0 r1 => k ⟨.tup [.agg (eRecv r0), .agg [(tL r1.xSrcPort), (tL r1.xDstPort), (tI .u32 r1.xSeq), (tI .u32 r1.xAck), (tL r1.xFlags), (tL r1.xWin), (tL r1.xUrg), (tL r1.xMss), (tL r1.xScale), (tB r1.xSackOk), (tB r1.xStamped), (tI .u32 r1.xVal), (tI .u32 r1.xEcr), .row true (.rBlock r1.xSacks), .row false (.ruint8 r1.xData)]], [], []⟩) = run2 U cp (callP cp n) n fn32 [.agg (eRecv p0), .row true (.rBlock p1)] [] k := ((X_run (f := fn32) (av := [.agg (eRecv p0), .row true (.rBlock p1)]) (cells := []) (code := i32_6) (fr := (fr32_22 p0 p1)) (k := k) (by kernel_rfl) (fun K => by kernel_rfl)).trans ((s32_21_t cp n p0 p1 (finK2 fn32 k)).trans (by kernel_rfl))).symm
end
/-! tideway/recv.Read -/
section
variable (cp : CP) (n : Nat) (p0 : SRecv) (p1 : Int) (v15 : (List Int)) (v16 : SRecv) (v17 : Int) (v51 : Bool) (v52 : SRecv) (v53 : SSegment) (v54 : (List Int)) (v55 : Bool) (v56 : Int) (v57 : SRecv) (v58 : SSegment) (k : KX R)
def w20_0 : Fr := [(tL 0), (tL 0), (tL 0), (tI .u32 0), (tB false), (tB false), (tL 0), (tB false), .row false (.rSpan []), (tI .u32 0), (tI .u32 0), (tB false), .hdr 15, (tL 0), (tL 0), (tI .u32 0)]
def w20_1 : Fr := (tI .u32 0) :: (tL 0) :: (tL 0) :: (tL 0) :: (tL 0) :: (tL 0) :: (tB false) :: (tB false) :: (tI .u32 0) :: (tI .u32 0) :: (.row false (.rBlock [])) :: (.row false (.ruint8 [])) :: (dT 4 [])
def fr20_2 : FF := [dT 2 ((.ptr 60 0) :: (dT 1 ((.ptr 76 0) :: (dT 1 ((.ptr 92 0) :: (dT 3 ((.row false (.ruint8 v15)) :: (dT 5 [])))))))), dc, dc, dT 12 ((.hdr 15) :: (sl 0 3 (eRecv v16))), sl 3 12 (eRecv v16) ++ [.hdr 15, (tL 0), .row false (.ruint8 []), .row false (.rPiece [])], w20_0, w20_1, dc]
def fr20_3 : FF := [dT 4 ((.ptr 76 0) :: (.row false (.ruint8 [])) :: (.ptr 92 0) :: (tB false) :: (tL v17) :: (dT 7 [])), dc, dc, dc, dT 12 ([.hdr 15, (tL 0), .row false (.ruint8 []), .row false (.rPiece [])]), w20_0, w20_1, dc]
def fr20_5 : FF := [dT 4 ((.ptr 76 0) :: (.row false (.ruint8 v15)) :: (.ptr 92 0) :: (tB v51) :: (tL 0) :: (dT 7 [])), dc, dc, dc, dT 12 ((.hdr 15) :: (sl 0 3 (eRecv v52))), sl 3 12 (eRecv v52) ++ ((.hdr 15) :: (sl 0 3 (eSegment v53))), sl 3 12 (eSegment v53) ++ (dT 4 []), dc]
theorem s20_4_t : X cp n i20_0 (fr20_2 v15 v16) k = s20_4 cp n v15 v16 (fun v51 v52 v53 => k .ret (fr20_5 v15 v51 v52 v53)) := by kernel_rfl
def fr20_6 : FF := [dT 4 ((.ptr 76 0) :: (.row false (.ruint8 v54)) :: (.ptr 92 0) :: (tB v55) :: (tL v56) :: (dT 7 [])), dc, dc, dc, dT 12 ((.hdr 15) :: (sl 0 3 (eRecv v57))), sl 3 12 (eRecv v57) ++ ((.hdr 15) :: (sl 0 3 (eSegment v58))), sl 3 12 (eSegment v58) ++ (dT 4 []), dc]
def fr20_8 : FF := [(.agg (eRecv p0)) :: (tL p1) :: (dT 14 []), dc, dc, dc, dc, dc, dc, dc]
theorem s20_7_t : X cp n i20_1 (fr20_8 p0 p1) k = s20_7 cp n p0 p1 (fun v54 v55 v56 v57 v58 => k .ret (fr20_6 v54 v55 v56 v57 v58)) := ch (fun q => s20_1 cp n p0 p1 q (fun v17 => k .ret (fr20_6 [] false v17 (SRecv.mk 0 [] [] 0 0 0 0 false false 0 false [] 0 0 false) (SSegment.mk 0 0 0 0 0 0 0 0 0 false false 0 0 [] [])))) (fun c v15 v16 => X cp n c (fr20_2 v15 v16) k) i20_0 (fun c => X cp n (.seq (.fin (.reg g20_0) [0, 5, 7, 8] []) (.seq (.seq (.fin (.reg g20_1) [12, 13] []) (.seq (.fin (.reg g20_2) [14] []) (.fin (.cond (.s 15) (.seq (.fin (.reg g20_3) [1, 2, 9, 15, 16, 17, 18] [(60, 15)]) (.wk [5, 7, 8] (.ret))) (.skip)) [9, 15] []))) (.seq (.fin (.reg g20_4) [19, 20] []) (.seq (.fin (.reg g20_5) [21, 22, 23, 24, 25] []) (.seq (.fin (.reg g20_6) [26, 27, 28, 29, 30] []) (.seq (.fin (.reg g20_7) [1, 31, 32, 33, 34, 35] []) c)))))) (fr20_8 p0 p1) k) (fun c => by kernel_rfl) (funext fun v15 => funext fun v16 => (s20_4_t cp n v15 v16 k).trans (show _ = s20_4 cp n v15 v16 (fun v51 v52 v53 => k .ret (fr20_6 v15 v51 0 v52 v53)) from by kernel_rfl)) (by kernel_rfl) (by kernel_rfl)
theorem run20 (cp : CP) (n : Nat) (p0 : SRecv) (p1 : Int) (k : Ret2 RW → Option R) : G20 cp (n + 1) p0 p1 (fun r0 r1 r2 r3 r4 => k ⟨.tup [.agg (eRecv r0), .row false (.ruint8 r1), .agg (eSegment r2), (tB r3), (tL r4)], [], []⟩) = run2 U cp (callP cp n) n fn20 [.agg (eRecv p0), (tL p1)] [] k := ((X_run (f := fn20) (av := [.agg (eRecv p0), (tL p1)]) (cells := []) (code := i20_1) (fr := (fr20_8 p0 p1)) (k := k) (by kernel_rfl) (fun K => by kernel_rfl)).trans ((s20_7_t cp n p0 p1 (finK2 fn20 k)).trans (by kernel_rfl))).symm
end
/-! tideway/tidewayref08.reach -/
section
variable (cp : CP) (n : Nat) (k : KX R)
theorem run46 (cp : CP) (n : Nat) (p0 : SRecv) (k : Ret2 RW → Option R) : G46 cp (n + 1) p0 (fun r0 => k ⟨(tL r0), [], []⟩) = run2 U cp (callP cp n) n fn46 [.agg (eRecv p0)] [] k := by kernel_rfl
end
/-! tideway/tidewayref08.limit -/
section
variable (cp : CP) (n : Nat) (k : KX R)
theorem run42 (cp : CP) (n : Nat) (p0 : SRecv) (k : Ret2 RW → Option R) : G42 cp (n + 1) p0 (fun r0 => k ⟨(tL r0), [], []⟩) = run2 U cp (callP cp n) n fn42 [.agg (eRecv p0)] [] k := by kernel_rfl
end
/-! tideway/tidewayref08.spans -/
section
variable (cp : CP) (n : Nat) (p0 : (List SPiece)) (v73 : (List SSpan)) (v74 : Int) (v75 : (List SSpan)) (v76 : Int) (v77 v78 v79 v80 v81 : (List SSpan)) (k : KX R)
def fr47_2 : FF := [(.row false (.rPiece p0)) :: (dT 2 ((.row true (.rSpan [])) :: (dT 12 []))), dc, dc]
def fr47_4 : FF := [(.row false (.rPiece p0)) :: (dT 2 ((.row true (.rSpan [])) :: (tL 0) :: (dT 11 []))), dc, dc]
def fr47_6 : FF := [(.row false (.rPiece p0)) :: (dT 2 ((.row true (.rSpan v75)) :: (tL v76) :: (dT 11 []))), dc, dc]
def fr47_7 : FF := [dT 3 ((.row true (.rSpan v73)) :: (dT 12 [])), dc, dc]
def fr47_8 : FF := [(.row false (.rPiece p0)) :: (dT 2 ((.row true (.rSpan v73)) :: (tL v74) :: (dT 11 []))), dc, dc]
theorem s47_5_t : X cp n i47_0 (fr47_8 p0 v73 v74) k = s47_5 cp n p0 v73 v74 (fun v75 v76 => k .norm (fr47_6 p0 v75 v76)) (k (.exit 0) (fr47_7 v73)) := by kernel_rfl
def fr47_9 : FF := [dT 3 ((.row true (.rSpan v77)) :: (dT 12 [])), dc, dc]
theorem l47_10_t (cp : CP) (n : Nat) : ∀ (m : Nat) (p0 : (List SPiece)) (v73 : (List SSpan)) (v74 : Int) (k : KX R), loopN2 (X cp n i47_0) m (fr47_8 p0 v73 v74) k = l47_10 cp n m p0 v73 v74 (fun v77 => k (.exit 0) (fr47_9 v77))
  | 0, _, _, _, _ => rfl
  | m + 1, p0, v73, v74, k => (loopN2_succ (X cp n i47_0) m (fr47_8 p0 v73 v74) k).trans ((s47_5_t cp n p0 v73 v74 (loopT (X cp n i47_0) m k)).trans (tq (congrArg (fun q => s47_5 cp n p0 v73 v74 q (k (.exit 0) (fr47_9 v73))) (funext fun v75 => funext fun v76 => l47_10_t cp n m p0 v75 v76 k)) (by kernel_rfl)))
theorem s47_11_t : X cp n i47_1 (fr47_4 p0) k = s47_11 cp n p0 (fun v77 => k (.exit 0) (fr47_9 v77)) := tq (l47_10_t cp n n p0 [] 0 k) (by kernel_rfl)
def fr47_12 : FF := [dT 3 ((.row true (.rSpan v78)) :: (dT 12 [])), dc, dc]
theorem s47_13_t : X cp n i47_2 (fr47_4 p0) k = s47_13 cp n p0 (fun v78 => k .norm (fr47_12 v78)) := tq ((s47_11_t cp n p0 (blkT 0 k)).trans (by kernel_rfl)) (by kernel_rfl)
def fr47_14 : FF := [dT 3 ((.row true (.rSpan v79)) :: (dT 12 [])), dc, dc]
theorem s47_15_t : X cp n i47_3 (fr47_2 p0) k = s47_15 cp n p0 (fun v79 => k .norm (fr47_14 v79)) := ch (fun q => s47_3 cp n p0 q) (fun c => X cp n c (fr47_4 p0) k) i47_2 (fun c => X cp n (.seq (.reg g47_2) c) (fr47_2 p0) k) (fun c => by kernel_rfl) ((s47_13_t cp n p0 k).trans (show _ = s47_13 cp n p0 (fun v78 => k .norm (fr47_14 v78)) from by kernel_rfl)) (by kernel_rfl) (by kernel_rfl)
def fr47_17 : FF := [dT 2 ((.row false (.rSpan v79)) :: (dT 13 [])), dc, dc]
theorem s47_16_t : X cp n i47_4 (fr47_14 v79) k = s47_16 cp n v79 (k .ret (fr47_17 v79)) := by kernel_rfl
def fr47_18 : FF := [dT 2 ((.row false (.rSpan v80)) :: (dT 13 [])), dc, dc]
theorem s47_19_t : X cp n i47_5 (fr47_2 p0) k = s47_19 cp n p0 (fun v80 => k .ret (fr47_18 v80)) := tq (tq (congrArg (fun q => s47_15 cp n p0 q) (funext fun v79 => (s47_16_t cp n v79 k).trans (show _ = s47_16 cp n v79 (k .ret (fr47_18 v79)) from by kernel_rfl))) ((s47_15_t cp n p0 (seqT (X cp n) i47_4 k)).trans (by kernel_rfl))) (by kernel_rfl)
def fr47_20 : FF := [dT 2 ((.row false (.rSpan v81)) :: (dT 13 [])), dc, dc]
def fr47_22 : FF := [(.row false (.rPiece p0)) :: (dT 15 []), dc, dc]
theorem s47_21_t : X cp n i47_6 (fr47_22 p0) k = s47_21 cp n p0 (fun v81 => k .ret (fr47_20 v81)) := ch (fun q => s47_1 cp n p0 q) (fun c => X cp n c (fr47_2 p0) k) i47_5 (fun c => X cp n (.seq (.fin (.reg g47_0) [2] []) (.seq (.reg g47_1) c)) (fr47_22 p0) k) (fun c => by kernel_rfl) ((s47_19_t cp n p0 k).trans (show _ = s47_19 cp n p0 (fun v80 => k .ret (fr47_20 v80)) from by kernel_rfl)) (by kernel_rfl) (by kernel_rfl)
theorem run47 (cp : CP) (n : Nat) (p0 : (List SPiece)) (k : Ret2 RW → Option R) : G47 cp (n + 1) p0 (fun r0 => k ⟨.row false (.rSpan r0), [], []⟩) = run2 U cp (callP cp n) n fn47 [.row false (.rPiece p0)] [] k := ((X_run (f := fn47) (av := [.row false (.rPiece p0)]) (cells := []) (code := i47_6) (fr := (fr47_22 p0)) (k := k) (by kernel_rfl) (fun K => by kernel_rfl)).trans ((s47_21_t cp n p0 (finK2 fn47 k)).trans (by kernel_rfl))).symm
end
/-! tideway/tidewayref08.in -/
section
variable (cp : CP) (n : Nat) (p0 : SSpan) (p1 : (List SSpan)) (v84 v85 : Int) (v86 v87 : Bool) (k : KX R)
def w48_0 : Fr := dT 2 ((.hdr 2) :: ((eSpan p0) ++ (dT 11 [])))
def fr48_2 : FF := [dT 1 ((.row false (.rSpan p1)) :: (.ptr 18 0) :: (dT 13 [])), w48_0 p0]
def fr48_4 : FF := [dT 1 ((.row false (.rSpan p1)) :: (.ptr 18 0) :: (dT 2 ((tL 0) :: (dT 10 [])))), w48_0 p0]
def fr48_6 : FF := [dT 1 ((.row false (.rSpan p1)) :: (.ptr 18 0) :: (dT 2 ((tL v85) :: (dT 10 [])))), w48_0 p0]
def fr48_7 : FF := [dT 4 ((tB true) :: (dT 11 [])), dc]
def fr48_8 : FF := [dc, dc]
def fr48_9 : FF := [dT 1 ((.row false (.rSpan p1)) :: (.ptr 18 0) :: (dT 2 ((tL v84) :: (dT 10 [])))), w48_0 p0]
theorem s48_5_t : X cp n i48_0 (fr48_9 p0 p1 v84) k = s48_5 cp n p0 p1 v84 (fun v85 => k .norm (fr48_6 p0 p1 v85)) (k .ret fr48_7) (k (.exit 0) fr48_8) := by kernel_rfl
theorem l48_10_t (cp : CP) (n : Nat) : ∀ (m : Nat) (p0 : SSpan) (p1 : (List SSpan)) (v84 : Int) (k : KX R), loopN2 (X cp n i48_0) m (fr48_9 p0 p1 v84) k = l48_10 cp n m p0 p1 v84 (k .ret fr48_7) (k (.exit 0) fr48_8)
  | 0, _, _, _, _ => rfl
  | m + 1, p0, p1, v84, k => (loopN2_succ (X cp n i48_0) m (fr48_9 p0 p1 v84) k).trans ((s48_5_t cp n p0 p1 v84 (loopT (X cp n i48_0) m k)).trans (tq (congrArg (fun q => s48_5 cp n p0 p1 v84 q (k .ret fr48_7) (k (.exit 0) fr48_8)) (funext fun v85 => l48_10_t cp n m p0 p1 v85 k)) (by kernel_rfl)))
theorem s48_11_t : X cp n i48_1 (fr48_4 p0 p1) k = s48_11 cp n p0 p1 (k .ret fr48_7) (k (.exit 0) fr48_8) := tq (l48_10_t cp n n p0 p1 0 k) (by kernel_rfl)
theorem s48_12_t : X cp n i48_2 (fr48_4 p0 p1) k = s48_12 cp n p0 p1 (k .norm fr48_8) (k .ret fr48_7) := tq ((s48_11_t cp n p0 p1 (blkT 0 k)).trans (by kernel_rfl)) (by kernel_rfl)
theorem s48_13_t : X cp n i48_3 (fr48_2 p0 p1) k = s48_13 cp n p0 p1 (k .norm fr48_8) (k .ret fr48_7) := ch (fun q => s48_3 cp n p0 p1 q) (fun c => X cp n c (fr48_4 p0 p1) k) i48_2 (fun c => X cp n (.seq (.reg g48_1) c) (fr48_2 p0 p1) k) (fun c => by kernel_rfl) (s48_12_t cp n p0 p1 k) (by kernel_rfl) (by kernel_rfl)
def fr48_15 : FF := [dT 4 ((tB false) :: (dT 11 [])), dc]
theorem s48_14_t : X cp n i48_4 fr48_8 k = s48_14 cp n (k .ret fr48_15) := by kernel_rfl
def fr48_16 : FF := [dT 4 ((tB v86) :: (dT 11 [])), dc]
theorem s48_17_t : X cp n i48_5 (fr48_2 p0 p1) k = s48_17 cp n p0 p1 (fun v86 => k .ret (fr48_16 v86)) := tq (tq (congrArg (fun q => s48_13 cp n p0 p1 q (k .ret (fr48_16 true))) ((s48_14_t cp n  k).trans (show _ = s48_14 cp n (k .ret (fr48_16 false)) from by kernel_rfl))) ((s48_13_t cp n p0 p1 (seqT (X cp n) i48_4 k)).trans (by kernel_rfl))) (by kernel_rfl)
def fr48_18 : FF := [dT 4 ((tB v87) :: (dT 11 [])), dc]
def fr48_20 : FF := [(.agg (eSpan p0)) :: (.row false (.rSpan p1)) :: (dT 14 []), dc]
theorem s48_19_t : X cp n i48_6 (fr48_20 p0 p1) k = s48_19 cp n p0 p1 (fun v87 => k .ret (fr48_18 v87)) := ch (fun q => s48_1 cp n p0 p1 q) (fun c => X cp n c (fr48_2 p0 p1) k) i48_5 (fun c => X cp n (.seq (.fin (.reg g48_0) [0, 4] []) c) (fr48_20 p0 p1) k) (fun c => by kernel_rfl) ((s48_17_t cp n p0 p1 k).trans (show _ = s48_17 cp n p0 p1 (fun v86 => k .ret (fr48_18 v86)) from by kernel_rfl)) (by kernel_rfl) (by kernel_rfl)
theorem run48 (cp : CP) (n : Nat) (p0 : SSpan) (p1 : (List SSpan)) (k : Ret2 RW → Option R) : G48 cp (n + 1) p0 p1 (fun r0 => k ⟨(tB r0), [], []⟩) = run2 U cp (callP cp n) n fn48 [.agg (eSpan p0), .row false (.rSpan p1)] [] k := ((X_run (f := fn48) (av := [.agg (eSpan p0), .row false (.rSpan p1)]) (cells := []) (code := i48_6) (fr := (fr48_20 p0 p1)) (k := k) (by kernel_rfl) (fun K => by kernel_rfl)).trans ((s48_19_t cp n p0 p1 (finK2 fn48 k)).trans (by kernel_rfl))).symm
end
/-! tideway/tidewayref08.Check -/
section
variable (cp : CP) (n : Nat) (p0 : SRecv) (v68 v69 v71 v72 : Int) (v83 : (List SSpan)) (v84 v87 v88 v89 v90 v91 v92 v93 : Int) (k : KX R)
def w16_0 : Fr := dT 7 ((.hdr 15) :: (sl 0 8 (eRecv p0)))
def w16_1 : Fr := sl 8 7 (eRecv p0) ++ (dT 9 [])
def fr16_2 : FF := [dT 1 ((.ptr 199 0) :: (dT 14 [])), dc, dc, dc, dc, dc, dc, dc, dc, dc, dc, dc, w16_0 p0, w16_1 p0]
def fr16_3 : FF := [dT 2 ((tL 230) :: (dT 13 [])), dc, dc, dc, dc, dc, dc, dc, dc, dc, dc, dc, dc, dc]
def fr16_5 : FF := [dT 1 ((.ptr 199 0) :: (dT 1 ((tL p0.xNext) :: (dT 12 [])))), dc, dc, dc, dc, dc, dc, dc, dc, dc, dc, dc, w16_0 p0, w16_1 p0]
def fr16_7 : FF := [dT 1 ((.ptr 199 0) :: (dT 1 ((tL p0.xNext) :: (tL 0) :: (dT 11 [])))), dc, dc, dc, dc, dc, dc, dc, dc, dc, dc, dc, w16_0 p0, w16_1 p0]
def fr16_9 : FF := [dT 1 ((.ptr 199 0) :: (dT 1 ((tL v71) :: (tL v72) :: (dT 11 [])))), dc, dc, dc, dc, dc, dc, dc, dc, dc, dc, dc, w16_0 p0, w16_1 p0]
def fr16_10 : FF := [dT 1 ((.ptr 199 0) :: (dT 1 ((tL v68) :: (tL v69) :: (dT 11 [])))), dc, dc, dc, dc, dc, dc, dc, dc, dc, dc, dc, w16_0 p0, w16_1 p0]
theorem s16_8_t : X cp n i16_0 (fr16_10 p0 v68 v69) k = s16_8 cp n p0 v68 v69 (fun v71 v72 => k .norm (fr16_9 p0 v71 v72)) (k .ret fr16_3) (k (.exit 0) (fr16_2 p0)) := by kernel_rfl
theorem l16_11_t (cp : CP) (n : Nat) : ∀ (m : Nat) (p0 : SRecv) (v68 v69 : Int) (k : KX R), loopN2 (X cp n i16_0) m (fr16_10 p0 v68 v69) k = l16_11 cp n m p0 v68 v69 (k .ret fr16_3) (k (.exit 0) (fr16_2 p0))
  | 0, _, _, _, _ => rfl
  | m + 1, p0, v68, v69, k => (loopN2_succ (X cp n i16_0) m (fr16_10 p0 v68 v69) k).trans ((s16_8_t cp n p0 v68 v69 (loopT (X cp n i16_0) m k)).trans (tq (congrArg (fun q => s16_8 cp n p0 v68 v69 q (k .ret fr16_3) (k (.exit 0) (fr16_2 p0))) (funext fun v71 => funext fun v72 => l16_11_t cp n m p0 v71 v72 k)) (by kernel_rfl)))
theorem s16_12_t : X cp n i16_1 (fr16_7 p0) k = s16_12 cp n p0 (k .ret fr16_3) (k (.exit 0) (fr16_2 p0)) := tq (l16_11_t cp n n p0 p0.xNext 0 k) (by kernel_rfl)
theorem s16_13_t : X cp n i16_2 (fr16_7 p0) k = s16_13 cp n p0 (k .norm (fr16_2 p0)) (k .ret fr16_3) := tq ((s16_12_t cp n p0 (blkT 0 k)).trans (by kernel_rfl)) (by kernel_rfl)
theorem s16_14_t : X cp n i16_3 (fr16_5 p0) k = s16_14 cp n p0 (k .norm (fr16_2 p0)) (k .ret fr16_3) := ch (fun q => s16_6 cp n p0 q) (fun c => X cp n c (fr16_7 p0) k) i16_2 (fun c => X cp n (.seq (.reg g16_6) c) (fr16_5 p0) k) (fun c => by kernel_rfl) (s16_13_t cp n p0 k) (by kernel_rfl) (by kernel_rfl)
def fr16_16 : FF := [dT 1 ((.ptr 199 0) :: (dT 4 ((.row false (.rSpan v83)) :: (dT 9 [])))), dc, dc, dc, dc, dc, dc, dc, dc, dc, dc, dc, w16_0 p0, w16_1 p0]
def fr16_18 : FF := [dT 1 ((.ptr 199 0) :: (dT 4 ((.row false (.rSpan v83)) :: (tL 0) :: (dT 8 [])))), dc, dc, dc, dc, dc, dc, dc, dc, dc, dc, dc, w16_0 p0, w16_1 p0]
def fr16_20 : FF := [dT 1 ((.ptr 199 0) :: (dT 4 ((.row false (.rSpan v83)) :: (tL v87) :: (dT 8 [])))), dc, dc, dc, dc, dc, dc, dc, dc, dc, dc, dc, w16_0 p0, w16_1 p0]
def fr16_21 : FF := [dT 1 ((.ptr 199 0) :: (dT 4 ((.row false (.rSpan v83)) :: (tL v84) :: (dT 8 [])))), dc, dc, dc, dc, dc, dc, dc, dc, dc, dc, dc, w16_0 p0, w16_1 p0]
theorem s16_19_t : X cp n i16_4 (fr16_21 p0 v83 v84) k = s16_19 cp n p0 v83 v84 (fun v87 => k .norm (fr16_20 p0 v83 v87)) (k .ret fr16_3) (k (.exit 2) (fr16_2 p0)) := by kernel_rfl
theorem l16_22_t (cp : CP) (n : Nat) : ∀ (m : Nat) (p0 : SRecv) (v83 : (List SSpan)) (v84 : Int) (k : KX R), loopN2 (X cp n i16_4) m (fr16_21 p0 v83 v84) k = l16_22 cp n m p0 v83 v84 (k .ret fr16_3) (k (.exit 2) (fr16_2 p0))
  | 0, _, _, _, _ => rfl
  | m + 1, p0, v83, v84, k => (loopN2_succ (X cp n i16_4) m (fr16_21 p0 v83 v84) k).trans ((s16_19_t cp n p0 v83 v84 (loopT (X cp n i16_4) m k)).trans (tq (congrArg (fun q => s16_19 cp n p0 v83 v84 q (k .ret fr16_3) (k (.exit 2) (fr16_2 p0))) (funext fun v87 => l16_22_t cp n m p0 v83 v87 k)) (by kernel_rfl)))
theorem s16_23_t : X cp n i16_5 (fr16_18 p0 v83) k = s16_23 cp n p0 v83 (k .ret fr16_3) (k (.exit 2) (fr16_2 p0)) := tq (l16_22_t cp n n p0 v83 0 k) (by kernel_rfl)
theorem s16_24_t : X cp n i16_6 (fr16_18 p0 v83) k = s16_24 cp n p0 v83 (k .norm (fr16_2 p0)) (k .ret fr16_3) := tq ((s16_23_t cp n p0 v83 (blkT 2 k)).trans (by kernel_rfl)) (by kernel_rfl)
theorem s16_25_t : X cp n i16_7 (fr16_16 p0 v83) k = s16_25 cp n p0 v83 (k .norm (fr16_2 p0)) (k .ret fr16_3) := ch (fun q => s16_17 cp n p0 v83 q) (fun c => X cp n c (fr16_18 p0 v83) k) i16_6 (fun c => X cp n (.seq (.reg g16_14) c) (fr16_16 p0 v83) k) (fun c => by kernel_rfl) (s16_24_t cp n p0 v83 k) (by kernel_rfl) (by kernel_rfl)
def fr16_27 : FF := [dT 2 ((tL v88) :: (dT 13 [])), dc, dc, dc, dc, dc, dc, dc, dc, dc, dc, dc, dc, dc]
theorem s16_26_t : X cp n i16_8 (fr16_2 p0) k = s16_26 cp n p0 (fun v88 => k .ret (fr16_27 v88)) := by kernel_rfl
def fr16_28 : FF := [dT 2 ((tL v89) :: (dT 13 [])), dc, dc, dc, dc, dc, dc, dc, dc, dc, dc, dc, dc, dc]
theorem s16_29_t : X cp n i16_9 (fr16_16 p0 v83) k = s16_29 cp n p0 v83 (fun v89 => k .ret (fr16_28 v89)) := tq (tq (congrArg (fun q => s16_25 cp n p0 v83 q (k .ret (fr16_28 230))) ((s16_26_t cp n p0 k).trans (show _ = s16_26 cp n p0 (fun v88 => k .ret (fr16_28 v88)) from by kernel_rfl))) ((s16_25_t cp n p0 v83 (seqT (X cp n) i16_8 k)).trans (by kernel_rfl))) (by kernel_rfl)
def fr16_30 : FF := [dT 2 ((tL v90) :: (dT 13 [])), dc, dc, dc, dc, dc, dc, dc, dc, dc, dc, dc, dc, dc]
theorem s16_31_t : X cp n i16_10 (fr16_2 p0) k = s16_31 cp n p0 (fun v90 => k .ret (fr16_30 v90)) := ch (fun q => s16_15 cp n p0 q) (fun c v83 => X cp n c (fr16_16 p0 v83) k) i16_9 (fun c => X cp n (.seq (.fin (.reg g16_13) [151, 152, 153] []) c) (fr16_2 p0) k) (fun c => by kernel_rfl) (funext fun v83 => (s16_29_t cp n p0 v83 k).trans (show _ = s16_29 cp n p0 v83 (fun v89 => k .ret (fr16_30 v89)) from by kernel_rfl)) (by kernel_rfl) (by kernel_rfl)
def fr16_32 : FF := [dT 2 ((tL v91) :: (dT 13 [])), dc, dc, dc, dc, dc, dc, dc, dc, dc, dc, dc, dc, dc]
theorem s16_33_t : X cp n i16_11 (fr16_5 p0) k = s16_33 cp n p0 (fun v91 => k .ret (fr16_32 v91)) := tq (tq (congrArg (fun q => s16_14 cp n p0 q (k .ret (fr16_32 230))) ((s16_31_t cp n p0 k).trans (show _ = s16_31 cp n p0 (fun v90 => k .ret (fr16_32 v90)) from by kernel_rfl))) ((s16_14_t cp n p0 (seqT (X cp n) i16_10 k)).trans (by kernel_rfl))) (by kernel_rfl)
def fr16_34 : FF := [dT 2 ((tL v92) :: (dT 13 [])), dc, dc, dc, dc, dc, dc, dc, dc, dc, dc, dc, dc, dc]
theorem s16_35_t : X cp n i16_12 (fr16_2 p0) k = s16_35 cp n p0 (fun v92 => k .ret (fr16_34 v92)) := ch (fun q => s16_4 cp n p0 q (k .ret (fr16_34 230))) (fun c => X cp n c (fr16_5 p0) k) i16_11 (fun c => X cp n (.seq (.seq (.fin (.reg g16_3) [52, 53, 54, 55, 56, 57, 58, 59, 60, 61, 62, 63, 64, 65, 66, 67, 68, 69, 70, 71, 72, 73, 74, 75, 76, 77, 78, 79, 80, 81, 82] []) (.fin (.cond (.s 83) (.seq (.fin (.reg g16_4) [1, 83] [(199, 15)]) (.ret)) (.skip)) [83] [])) (.seq (.fin (.reg g16_5) [84, 85] []) c)) (fr16_2 p0) k) (fun c => by kernel_rfl) ((s16_33_t cp n p0 k).trans (show _ = s16_33 cp n p0 (fun v91 => k .ret (fr16_34 v91)) from by kernel_rfl)) (by kernel_rfl) (by kernel_rfl)
def fr16_36 : FF := [dT 2 ((tL v93) :: (dT 13 [])), dc, dc, dc, dc, dc, dc, dc, dc, dc, dc, dc, dc, dc]
def fr16_38 : FF := [(.agg (eRecv p0)) :: (dT 15 []), dc, dc, dc, dc, dc, dc, dc, dc, dc, dc, dc, dc, dc]
theorem s16_37_t : X cp n i16_13 (fr16_38 p0) k = s16_37 cp n p0 (fun v93 => k .ret (fr16_36 v93)) := ch (fun q => s16_1 cp n p0 q (k .ret (fr16_36 230))) (fun c => X cp n c (fr16_2 p0) k) i16_12 (fun c => X cp n (.seq (.fin (.reg g16_0) [0, 2] []) (.seq (.seq (.fin (.reg g16_1) [8, 9, 10, 11, 12, 13, 14, 15, 16, 17, 18, 19, 20, 21, 22, 23, 24, 25, 26, 27, 28, 29, 30, 31, 32, 33, 34, 35, 36, 37, 38, 39, 40, 41, 42, 43, 44, 45, 46, 47, 48, 49, 50] []) (.fin (.cond (.s 51) (.seq (.fin (.reg g16_2) [1, 51] [(199, 15)]) (.ret)) (.skip)) [51] [])) c)) (fr16_38 p0) k) (fun c => by kernel_rfl) ((s16_35_t cp n p0 k).trans (show _ = s16_35 cp n p0 (fun v92 => k .ret (fr16_36 v92)) from by kernel_rfl)) (by kernel_rfl) (by kernel_rfl)
theorem run16 (cp : CP) (n : Nat) (p0 : SRecv) (k : Ret2 RW → Option R) : G16 cp (n + 1) p0 (fun r0 => k ⟨(tL r0), [], []⟩) = run2 U cp (callP cp n) n fn16 [.agg (eRecv p0)] [] k := ((X_run (f := fn16) (av := [.agg (eRecv p0)]) (cells := []) (code := i16_13) (fr := (fr16_38 p0)) (k := k) (by kernel_rfl) (fun K => by kernel_rfl)).trans ((s16_37_t cp n p0 (finK2 fn16 k)).trans (by kernel_rfl))).symm
end
/-! tideway/tidewayref08.Copy -/
section
variable (cp : CP) (n : Nat) (p0 : SRecv) (v95 : (List Int)) (v96 : Int) (v97 : (List SPiece)) (v98 : Int) (v99 v100 v101 v102 : (List SPiece)) (v103 : (List SSpan)) (v104 : (List SPiece)) (v105 : (List SSpan)) (v106 : SRecv) (k : KX R)
def w37_0 : Fr := dT 1 ((.ptr 45 0) :: (.ptr 61 0) :: (.ptr 77 0) :: (dT 12 []))
def w37_1 : Fr := dT 13 ((.hdr 15) :: (sl 0 2 (eRecv p0)))
def w37_2 : Fr := sl 2 13 (eRecv p0) ++ [.hdr 15, (tL 0), .row false (.ruint8 [])]
def w37_3 : Fr := [.row false (.rPiece []), (tL 0), (tL 0), (tL 0), (tI .u32 0), (tB false), (tB false), (tL 0), (tB false), .row false (.rSpan []), (tI .u32 0), (tI .u32 0), (tB false), .hdr 15, (tL p0.xNext), .row false (.ruint8 v95)]
def w37_4 : Fr := (.row true (.rPiece [])) :: (tL p0.xCap) :: (tL p0.xShift) :: (tL p0.xEdge) :: (tI .u32 p0.xRecent) :: (tB p0.xStamps) :: (tB p0.xSacks) :: (tL p0.xFin) :: (tB p0.xDone) :: (.row false (.rSpan p0.xFirst)) :: (tI .u32 p0.xIrs) :: (tI .u32 p0.xOwn) :: (tB p0.xStamp) :: (dT 3 [])
def fr37_2 : FF := [w37_0, dc, w37_1 p0, w37_2 p0, w37_3 p0 v95, w37_4 p0]
def fr37_4 : FF := [dT 1 ((.ptr 45 0) :: (.ptr 61 0) :: (.ptr 77 0) :: (tL 0) :: (dT 11 [])), dc, w37_1 p0, w37_2 p0, w37_3 p0 v95, w37_4 p0]
def fr37_6 : FF := [dT 1 ((.ptr 45 0) :: (.ptr 61 0) :: (.ptr 77 0) :: (tL v98) :: (dT 11 [])), dc, w37_1 p0, w37_2 p0, w37_3 p0 v95, (.row true (.rPiece v99)) :: (tL p0.xCap) :: (tL p0.xShift) :: (tL p0.xEdge) :: (tI .u32 p0.xRecent) :: (tB p0.xStamps) :: (tB p0.xSacks) :: (tL p0.xFin) :: (tB p0.xDone) :: (.row false (.rSpan p0.xFirst)) :: (tI .u32 p0.xIrs) :: (tI .u32 p0.xOwn) :: (tB p0.xStamp) :: (dT 3 [])]
def w37_5 : Fr := (.row true (.rPiece v97)) :: (tL p0.xCap) :: (tL p0.xShift) :: (tL p0.xEdge) :: (tI .u32 p0.xRecent) :: (tB p0.xStamps) :: (tB p0.xSacks) :: (tL p0.xFin) :: (tB p0.xDone) :: (.row false (.rSpan p0.xFirst)) :: (tI .u32 p0.xIrs) :: (tI .u32 p0.xOwn) :: (tB p0.xStamp) :: (dT 3 [])
def fr37_7 : FF := [w37_0, dc, w37_1 p0, w37_2 p0, w37_3 p0 v95, w37_5 p0 v97]
def fr37_8 : FF := [dT 1 ((.ptr 45 0) :: (.ptr 61 0) :: (.ptr 77 0) :: (tL v96) :: (dT 11 [])), dc, w37_1 p0, w37_2 p0, w37_3 p0 v95, w37_5 p0 v97]
theorem s37_5_t : X cp n i37_0 (fr37_8 p0 v95 v96 v97) k = s37_5 cp n p0 v95 v96 v97 (fun v98 v99 => k .norm (fr37_6 p0 v95 v98 v99)) (k (.exit 0) (fr37_7 p0 v95 v97)) := by kernel_rfl
def fr37_9 : FF := [w37_0, dc, w37_1 p0, w37_2 p0, w37_3 p0 v95, (.row true (.rPiece v100)) :: (tL p0.xCap) :: (tL p0.xShift) :: (tL p0.xEdge) :: (tI .u32 p0.xRecent) :: (tB p0.xStamps) :: (tB p0.xSacks) :: (tL p0.xFin) :: (tB p0.xDone) :: (.row false (.rSpan p0.xFirst)) :: (tI .u32 p0.xIrs) :: (tI .u32 p0.xOwn) :: (tB p0.xStamp) :: (dT 3 [])]
theorem l37_10_t (cp : CP) (n : Nat) : ∀ (m : Nat) (p0 : SRecv) (v95 : (List Int)) (v96 : Int) (v97 : (List SPiece)) (k : KX R), loopN2 (X cp n i37_0) m (fr37_8 p0 v95 v96 v97) k = l37_10 cp n m p0 v95 v96 v97 (fun v100 => k (.exit 0) (fr37_9 p0 v95 v100))
  | 0, _, _, _, _, _ => rfl
  | m + 1, p0, v95, v96, v97, k => (loopN2_succ (X cp n i37_0) m (fr37_8 p0 v95 v96 v97) k).trans ((s37_5_t cp n p0 v95 v96 v97 (loopT (X cp n i37_0) m k)).trans (tq (congrArg (fun q => s37_5 cp n p0 v95 v96 v97 q (k (.exit 0) (fr37_9 p0 v95 v97))) (funext fun v98 => funext fun v99 => l37_10_t cp n m p0 v95 v98 v99 k)) (by kernel_rfl)))
theorem s37_11_t : X cp n i37_1 (fr37_4 p0 v95) k = s37_11 cp n p0 v95 (fun v100 => k (.exit 0) (fr37_9 p0 v95 v100)) := tq (l37_10_t cp n n p0 v95 0 [] k) (by kernel_rfl)
def fr37_12 : FF := [w37_0, dc, w37_1 p0, w37_2 p0, w37_3 p0 v95, (.row true (.rPiece v101)) :: (tL p0.xCap) :: (tL p0.xShift) :: (tL p0.xEdge) :: (tI .u32 p0.xRecent) :: (tB p0.xStamps) :: (tB p0.xSacks) :: (tL p0.xFin) :: (tB p0.xDone) :: (.row false (.rSpan p0.xFirst)) :: (tI .u32 p0.xIrs) :: (tI .u32 p0.xOwn) :: (tB p0.xStamp) :: (dT 3 [])]
theorem s37_13_t : X cp n i37_2 (fr37_4 p0 v95) k = s37_13 cp n p0 v95 (fun v101 => k .norm (fr37_12 p0 v95 v101)) := tq ((s37_11_t cp n p0 v95 (blkT 0 k)).trans (by kernel_rfl)) (by kernel_rfl)
def fr37_14 : FF := [w37_0, dc, w37_1 p0, w37_2 p0, w37_3 p0 v95, (.row true (.rPiece v102)) :: (tL p0.xCap) :: (tL p0.xShift) :: (tL p0.xEdge) :: (tI .u32 p0.xRecent) :: (tB p0.xStamps) :: (tB p0.xSacks) :: (tL p0.xFin) :: (tB p0.xDone) :: (.row false (.rSpan p0.xFirst)) :: (tI .u32 p0.xIrs) :: (tI .u32 p0.xOwn) :: (tB p0.xStamp) :: (dT 3 [])]
theorem s37_15_t : X cp n i37_3 (fr37_2 p0 v95) k = s37_15 cp n p0 v95 (fun v102 => k .norm (fr37_14 p0 v95 v102)) := ch (fun q => s37_3 cp n p0 v95 q) (fun c => X cp n c (fr37_4 p0 v95) k) i37_2 (fun c => X cp n (.seq (.reg g37_4) c) (fr37_2 p0 v95) k) (fun c => by kernel_rfl) ((s37_13_t cp n p0 v95 k).trans (show _ = s37_13 cp n p0 v95 (fun v101 => k .norm (fr37_14 p0 v95 v101)) from by kernel_rfl)) (by kernel_rfl) (by kernel_rfl)
def w37_6 : Fr := dT 2 ((.ptr 61 0) :: (dT 13 []))
def w37_7 : Fr := dT 13 ([.hdr 15, (tL p0.xNext), .row false (.ruint8 v95)])
def fr37_17 : FF := [w37_6, dc, dc, w37_7 p0 v95, (.row false (.rPiece v102)) :: (tL p0.xCap) :: (tL p0.xShift) :: (tL p0.xEdge) :: (tI .u32 p0.xRecent) :: (tB p0.xStamps) :: (tB p0.xSacks) :: (tL p0.xFin) :: (tB p0.xDone) :: (.row false (.rSpan v103)) :: (tI .u32 p0.xIrs) :: (tI .u32 p0.xOwn) :: (tB p0.xStamp) :: (dT 3 []), dc]
theorem s37_16_t : X cp n i37_4 (fr37_14 p0 v95 v102) k = s37_16 cp n p0 v95 v102 (fun v103 => k .ret (fr37_17 p0 v95 v102 v103)) := by kernel_rfl
def fr37_18 : FF := [w37_6, dc, dc, w37_7 p0 v95, (.row false (.rPiece v104)) :: (tL p0.xCap) :: (tL p0.xShift) :: (tL p0.xEdge) :: (tI .u32 p0.xRecent) :: (tB p0.xStamps) :: (tB p0.xSacks) :: (tL p0.xFin) :: (tB p0.xDone) :: (.row false (.rSpan v105)) :: (tI .u32 p0.xIrs) :: (tI .u32 p0.xOwn) :: (tB p0.xStamp) :: (dT 3 []), dc]
theorem s37_19_t : X cp n i37_5 (fr37_2 p0 v95) k = s37_19 cp n p0 v95 (fun v104 v105 => k .ret (fr37_18 p0 v95 v104 v105)) := tq (tq (congrArg (fun q => s37_15 cp n p0 v95 q) (funext fun v102 => (s37_16_t cp n p0 v95 v102 k).trans (show _ = s37_16 cp n p0 v95 v102 (fun v103 => k .ret (fr37_18 p0 v95 v102 v103)) from by kernel_rfl))) ((s37_15_t cp n p0 v95 (seqT (X cp n) i37_4 k)).trans (by kernel_rfl))) (by kernel_rfl)
def fr37_20 : FF := [w37_6, dc, dc, dT 13 ((.hdr 15) :: (sl 0 2 (eRecv v106))), sl 2 13 (eRecv v106) ++ (dT 3 []), dc]
def fr37_22 : FF := [(.agg (eRecv p0)) :: (dT 15 []), dc, dc, dc, dc, dc]
theorem s37_21_t : X cp n i37_6 (fr37_22 p0) k = s37_21 cp n p0 (fun v106 => k .ret (fr37_20 v106)) := ch (fun q => s37_1 cp n p0 q) (fun c v95 => X cp n c (fr37_2 p0 v95) k) i37_5 (fun c => X cp n (.seq (.fin (.reg g37_0) [0] []) (.seq (.fin (.reg g37_1) [5] []) (.seq (.fin (.reg g37_2) [6, 7, 8, 9, 10] []) (.seq (.fin (.reg g37_3) [11] []) c)))) (fr37_22 p0) k) (fun c => by kernel_rfl) (funext fun v95 => (s37_19_t cp n p0 v95 k).trans (show _ = s37_19 cp n p0 v95 (fun v104 v105 => k .ret (fr37_20 (SRecv.mk p0.xNext v95 v104 p0.xCap p0.xShift p0.xEdge p0.xRecent p0.xStamps p0.xSacks p0.xFin p0.xDone v105 p0.xIrs p0.xOwn p0.xStamp))) from by kernel_rfl)) (by kernel_rfl) (by kernel_rfl)
theorem run37 (cp : CP) (n : Nat) (p0 : SRecv) (k : Ret2 RW → Option R) : G37 cp (n + 1) p0 (fun r0 => k ⟨.agg (eRecv r0), [], []⟩) = run2 U cp (callP cp n) n fn37 [.agg (eRecv p0)] [] k := ((X_run (f := fn37) (av := [.agg (eRecv p0)]) (cells := []) (code := i37_6) (fr := (fr37_22 p0)) (k := k) (by kernel_rfl) (fun K => by kernel_rfl)).trans ((s37_21_t cp n p0 (finK2 fn37 k)).trans (by kernel_rfl))).symm
end
/-! tideway/tidewayref08.window -/
section
variable (cp : CP) (n : Nat) (k : KX R)
theorem run50 (cp : CP) (n : Nat) (p0 : SRecv) (k : Ret2 RW → Option R) : G50 cp (n + 1) p0 (fun r0 => k ⟨(tL r0), [], []⟩) = run2 U cp (callP cp n) n fn50 [.agg (eRecv p0)] [] k := by kernel_rfl
end
/-! tideway/tidewayref01.mod -/
section
variable (cp : CP) (n : Nat) (k : KX R)
theorem run65 (cp : CP) (n : Nat) (p0 : Int) (k : Ret2 RW → Option R) : G65 cp (n + 1) p0 (fun r0 => k ⟨(tL r0), [], []⟩) = run2 U cp (callP cp n) n fn65 [(tL p0)] [] k := by kernel_rfl
end
/-! tideway/tidewayref01.Add -/
section
variable (cp : CP) (n : Nat) (k : KX R)
theorem run39 (cp : CP) (n : Nat) (p0 p1 : Int) (k : Ret2 RW → Option R) : G39 cp (n + 1) p0 p1 (fun r0 => k ⟨(tI .u32 r0), [], []⟩) = run2 U cp (callP cp n) n fn39 [(tI .u32 p0), (tL p1)] [] k := by kernel_rfl
end
/-! tideway/tidewayref08.tell -/
section
variable (cp : CP) (n : Nat) (p0 : SRecv) (p1 : (List SBlock)) (v123 : Int) (v124 : SSegment) (v125 : Int) (v126 : (List SBlock)) (v129 : Int) (v130 v131 v132 v133 : (List SBlock)) (v136 v137 : SRecv) (v138 : (List SBlock)) (v139 : SRecv) (v140 : SSegment) (k : KX R)
def w41_0 : Fr := dT 12 ((.hdr 15) :: (sl 0 3 (eRecv p0)))
def w41_1 : Fr := sl 3 12 (eRecv p0) ++ [.hdr 15, (tL 0), .row false (.ruint8 []), .row false (.rPiece [])]
def w41_2 : Fr := [(tL 0), (tL 0), (tL 0), (tI .u32 0), (tB false), (tB false), (tL 0), (tB false), .row false (.rSpan []), (tI .u32 0), (tI .u32 0), (tB false), .hdr 15, (tL 0), (tL 0), (tI .u32 0)]
def w41_3 : Fr := [(tI .u32 0), (tL 0), (tL 0), (tL 0), (tL 0), (tL 0), (tB false), (tB false), (tI .u32 0), (tI .u32 0), .row false (.rBlock []), .row false (.ruint8 []), .hdr 15, (tL v124.xSrcPort), (tL v124.xDstPort), (tI .u32 v124.xSeq)]
def w41_4 : Fr := (tI .u32 v124.xAck) :: (tL v124.xFlags) :: (tL v124.xWin) :: (tL v124.xUrg) :: (tL v124.xMss) :: (tL v124.xScale) :: (tB v124.xSackOk) :: (tB v124.xStamped) :: (tI .u32 v124.xVal) :: (tI .u32 v124.xEcr) :: (.row true (.rBlock v124.xSacks)) :: (.row false (.ruint8 v124.xData)) :: (dT 4 [])
def fr41_2 : FF := [dT 2 ((.ptr 92 0) :: (dT 1 ((.ptr 108 0) :: (.ptr 124 0) :: (dT 1 ((.ptr 140 0) :: (tL v123) :: (dT 7 [])))))), dc, dc, dc, dc, w41_0 p0, w41_1 p0, w41_2, w41_3 v124, w41_4 v124, dc]
def fr41_4 : FF := [dT 2 ((.ptr 92 0) :: (dT 1 ((.ptr 108 0) :: (.ptr 124 0) :: (dT 1 ((.ptr 140 0) :: (tL v123) :: (tL 0) :: (dT 6 [])))))), dc, dc, dc, dc, w41_0 p0, w41_1 p0, w41_2, w41_3 v124, w41_4 v124, dc]
def fr41_6 : FF := [dT 2 ((.ptr 92 0) :: (dT 1 ((.ptr 108 0) :: (.ptr 124 0) :: (dT 1 ((.ptr 140 0) :: (tL v123) :: (tL v129) :: (dT 6 [])))))), dc, dc, dc, dc, w41_0 p0, w41_1 p0, w41_2, w41_3 v124, (tI .u32 v124.xAck) :: (tL v124.xFlags) :: (tL v124.xWin) :: (tL v124.xUrg) :: (tL v124.xMss) :: (tL v124.xScale) :: (tB v124.xSackOk) :: (tB v124.xStamped) :: (tI .u32 v124.xVal) :: (tI .u32 v124.xEcr) :: (.row true (.rBlock v130)) :: (.row false (.ruint8 v124.xData)) :: (dT 4 []), dc]
def w41_5 : Fr := dT 2 ((.ptr 92 0) :: (dT 1 ((.ptr 108 0) :: (.ptr 124 0) :: (dT 1 ((.ptr 140 0) :: (dT 8 []))))))
def w41_6 : Fr := (tI .u32 v124.xAck) :: (tL v124.xFlags) :: (tL v124.xWin) :: (tL v124.xUrg) :: (tL v124.xMss) :: (tL v124.xScale) :: (tB v124.xSackOk) :: (tB v124.xStamped) :: (tI .u32 v124.xVal) :: (tI .u32 v124.xEcr) :: (.row true (.rBlock v126)) :: (.row false (.ruint8 v124.xData)) :: (dT 4 [])
def fr41_7 : FF := [w41_5, dc, dc, dc, dc, w41_0 p0, w41_1 p0, w41_2, w41_3 v124, w41_6 v124 v126, dc]
def fr41_8 : FF := [dT 2 ((.ptr 92 0) :: (dT 1 ((.ptr 108 0) :: (.ptr 124 0) :: (dT 1 ((.ptr 140 0) :: (tL v123) :: (tL v125) :: (dT 6 [])))))), dc, dc, dc, dc, w41_0 p0, w41_1 p0, w41_2, w41_3 v124, w41_6 v124 v126, dc]
theorem s41_5_t : X cp n i41_0 (fr41_8 p0 v123 v124 v125 v126) k = s41_5 cp n p0 v123 v124 v125 v126 (fun v129 v130 => k .norm (fr41_6 p0 v123 v124 v129 v130)) (k (.exit 0) (fr41_7 p0 v124 v126)) := by kernel_rfl
def fr41_9 : FF := [w41_5, dc, dc, dc, dc, w41_0 p0, w41_1 p0, w41_2, w41_3 v124, (tI .u32 v124.xAck) :: (tL v124.xFlags) :: (tL v124.xWin) :: (tL v124.xUrg) :: (tL v124.xMss) :: (tL v124.xScale) :: (tB v124.xSackOk) :: (tB v124.xStamped) :: (tI .u32 v124.xVal) :: (tI .u32 v124.xEcr) :: (.row true (.rBlock v131)) :: (.row false (.ruint8 v124.xData)) :: (dT 4 []), dc]
theorem l41_10_t (cp : CP) (n : Nat) : ∀ (m : Nat) (p0 : SRecv) (v123 : Int) (v124 : SSegment) (v125 : Int) (v126 : (List SBlock)) (k : KX R), loopN2 (X cp n i41_0) m (fr41_8 p0 v123 v124 v125 v126) k = l41_10 cp n m p0 v123 v124 v125 v126 (fun v131 => k (.exit 0) (fr41_9 p0 v124 v131))
  | 0, _, _, _, _, _, _ => rfl
  | m + 1, p0, v123, v124, v125, v126, k => (loopN2_succ (X cp n i41_0) m (fr41_8 p0 v123 v124 v125 v126) k).trans ((s41_5_t cp n p0 v123 v124 v125 v126 (loopT (X cp n i41_0) m k)).trans (tq (congrArg (fun q => s41_5 cp n p0 v123 v124 v125 v126 q (k (.exit 0) (fr41_9 p0 v124 v126))) (funext fun v129 => funext fun v130 => l41_10_t cp n m p0 v123 v124 v129 v130 k)) (by kernel_rfl)))
theorem s41_11_t : X cp n i41_1 (fr41_4 p0 v123 v124) k = s41_11 cp n p0 v123 v124 (fun v131 => k (.exit 0) (fr41_9 p0 v124 v131)) := tq (l41_10_t cp n n p0 v123 v124 0 v124.xSacks k) (by kernel_rfl)
def fr41_12 : FF := [w41_5, dc, dc, dc, dc, w41_0 p0, w41_1 p0, w41_2, w41_3 v124, (tI .u32 v124.xAck) :: (tL v124.xFlags) :: (tL v124.xWin) :: (tL v124.xUrg) :: (tL v124.xMss) :: (tL v124.xScale) :: (tB v124.xSackOk) :: (tB v124.xStamped) :: (tI .u32 v124.xVal) :: (tI .u32 v124.xEcr) :: (.row true (.rBlock v132)) :: (.row false (.ruint8 v124.xData)) :: (dT 4 []), dc]
theorem s41_13_t : X cp n i41_2 (fr41_4 p0 v123 v124) k = s41_13 cp n p0 v123 v124 (fun v132 => k .norm (fr41_12 p0 v124 v132)) := tq ((s41_11_t cp n p0 v123 v124 (blkT 0 k)).trans (by kernel_rfl)) (by kernel_rfl)
def fr41_14 : FF := [w41_5, dc, dc, dc, dc, w41_0 p0, w41_1 p0, w41_2, w41_3 v124, (tI .u32 v124.xAck) :: (tL v124.xFlags) :: (tL v124.xWin) :: (tL v124.xUrg) :: (tL v124.xMss) :: (tL v124.xScale) :: (tB v124.xSackOk) :: (tB v124.xStamped) :: (tI .u32 v124.xVal) :: (tI .u32 v124.xEcr) :: (.row true (.rBlock v133)) :: (.row false (.ruint8 v124.xData)) :: (dT 4 []), dc]
theorem s41_15_t : X cp n i41_3 (fr41_2 p0 v123 v124) k = s41_15 cp n p0 v123 v124 (fun v133 => k .norm (fr41_14 p0 v124 v133)) := ch (fun q => s41_3 cp n p0 v123 v124 q) (fun c => X cp n c (fr41_4 p0 v123 v124) k) i41_2 (fun c => X cp n (.seq (.reg g41_10) c) (fr41_2 p0 v123 v124) k) (fun c => by kernel_rfl) ((s41_13_t cp n p0 v123 v124 k).trans (show _ = s41_13 cp n p0 v123 v124 (fun v132 => k .norm (fr41_14 p0 v124 v132)) from by kernel_rfl)) (by kernel_rfl) (by kernel_rfl)
def w41_7 : Fr := dT 4 ((.ptr 108 0) :: (.ptr 124 0) :: (dT 10 []))
def fr41_17 : FF := [w41_7, dc, dc, dc, dc, dc, dT 12 ((.hdr 15) :: (sl 0 3 (eRecv v136))), sl 3 12 (eRecv v136) ++ [.hdr 15, (tL v124.xSrcPort), (tL v124.xDstPort), (tI .u32 v124.xSeq)], (tI .u32 v124.xAck) :: (tL v124.xFlags) :: (tL v124.xWin) :: (tL v124.xUrg) :: (tL v124.xMss) :: (tL v124.xScale) :: (tB v124.xSackOk) :: (tB v124.xStamped) :: (tI .u32 v124.xVal) :: (tI .u32 v124.xEcr) :: (.row false (.rBlock v133)) :: (.row false (.ruint8 v124.xData)) :: (dT 4 []), dc, dc]
theorem s41_16_t : X cp n i41_4 (fr41_14 p0 v124 v133) k = s41_16 cp n p0 v124 v133 (fun v136 => k .ret (fr41_17 v124 v133 v136)) := by kernel_rfl
def fr41_18 : FF := [w41_7, dc, dc, dc, dc, dc, dT 12 ((.hdr 15) :: (sl 0 3 (eRecv v137))), sl 3 12 (eRecv v137) ++ [.hdr 15, (tL v124.xSrcPort), (tL v124.xDstPort), (tI .u32 v124.xSeq)], (tI .u32 v124.xAck) :: (tL v124.xFlags) :: (tL v124.xWin) :: (tL v124.xUrg) :: (tL v124.xMss) :: (tL v124.xScale) :: (tB v124.xSackOk) :: (tB v124.xStamped) :: (tI .u32 v124.xVal) :: (tI .u32 v124.xEcr) :: (.row false (.rBlock v138)) :: (.row false (.ruint8 v124.xData)) :: (dT 4 []), dc, dc]
theorem s41_19_t : X cp n i41_5 (fr41_2 p0 v123 v124) k = s41_19 cp n p0 v123 v124 (fun v137 v138 => k .ret (fr41_18 v124 v137 v138)) := tq (tq (congrArg (fun q => s41_15 cp n p0 v123 v124 q) (funext fun v133 => (s41_16_t cp n p0 v124 v133 k).trans (show _ = s41_16 cp n p0 v124 v133 (fun v136 => k .ret (fr41_18 v124 v136 v133)) from by kernel_rfl))) ((s41_15_t cp n p0 v123 v124 (seqT (X cp n) i41_4 k)).trans (by kernel_rfl))) (by kernel_rfl)
def fr41_20 : FF := [w41_7, dc, dc, dc, dc, dc, dT 12 ((.hdr 15) :: (sl 0 3 (eRecv v139))), sl 3 12 (eRecv v139) ++ ((.hdr 15) :: (sl 0 3 (eSegment v140))), sl 3 12 (eSegment v140) ++ (dT 4 []), dc, dc]
def fr41_22 : FF := [(.agg (eRecv p0)) :: (.row true (.rBlock p1)) :: (dT 14 []), dc, dc, dc, dc, dc, dc, dc, dc, dc, dc]
theorem s41_21_t : X cp n i41_6 (fr41_22 p0 p1) k = s41_21 cp n p0 p1 (fun v139 v140 => k .ret (fr41_20 v139 v140)) := ch (fun q => s41_1 cp n p0 p1 q) (fun c v123 v124 => X cp n c (fr41_2 p0 v123 v124) k) i41_5 (fun c => X cp n (.seq (.fin (.reg g41_0) [0] []) (.seq (.fin (.reg g41_1) [11, 12] []) (.seq (.seq (.fin (.reg g41_2) [13] []) (.fin (.cond (.s 14) (.fin (.reg g41_3) [14, 15, 16] []) (.skip)) [14] [])) (.seq (.fin (.reg g41_4) [1, 6, 17, 18, 19, 20, 21, 22, 23, 24, 25, 26, 27, 28, 29, 30] []) (.seq (.reg g41_5) (.seq (.seq (.fin (.reg g41_6) [31] []) (.fin (.cond (.s 32) (.seq (.fin (.reg g41_7) [8, 32, 33] []) (.seq (.fin (.reg g41_8) [34, 35, 36] []) (.reg g41_9))) (.skip)) [32] [])) c)))))) (fr41_22 p0 p1) k) (fun c => by kernel_rfl) (funext fun v123 => funext fun v124 => (s41_19_t cp n p0 v123 v124 k).trans (show _ = s41_19 cp n p0 v123 v124 (fun v137 v138 => k .ret (fr41_20 v137 (SSegment.mk v124.xSrcPort v124.xDstPort v124.xSeq v124.xAck v124.xFlags v124.xWin v124.xUrg v124.xMss v124.xScale v124.xSackOk v124.xStamped v124.xVal v124.xEcr v138 v124.xData))) from by kernel_rfl)) (by kernel_rfl) (by kernel_rfl)
theorem run41 (cp : CP) (n : Nat) (p0 : SRecv) (p1 : (List SBlock)) (k : Ret2 RW → Option R) : G41 cp (n + 1) p0 p1 (fun r0 r1 => k ⟨.tup [.agg (eRecv r0), .agg (eSegment r1)], [], []⟩) = run2 U cp (callP cp n) n fn41 [.agg (eRecv p0), .row true (.rBlock p1)] [] k := ((X_run (f := fn41) (av := [.agg (eRecv p0), .row true (.rBlock p1)]) (cells := []) (code := i41_6) (fr := (fr41_22 p0 p1)) (k := k) (by kernel_rfl) (fun K => by kernel_rfl)).trans ((s41_21_t cp n p0 p1 (finK2 fn41 k)).trans (by kernel_rfl))).symm
end
/-! tideway/tidewayref08.Read -/
section
variable (cp : CP) (n : Nat) (k : KX R)
theorem run24 (cp : CP) (n : Nat) (p0 : SRecv) (p1 : Int) (k : Ret2 RW → Option R) : G24 cp (n + 1) p0 p1 (fun r0 r1 r2 r3 r4 => k ⟨.tup [.agg (eRecv r0), .row false (.ruint8 r1), .agg (eSegment r2), (tB r3), (tL r4)], [], []⟩) = run2 U cp (callP cp n) n fn24 [.agg (eRecv p0), (tL p1)] [] k := by kernel_rfl
end
/-! tideway/recv.Tell -/
section
variable (cp : CP) (n : Nat) (k : KX R)
theorem run23 (cp : CP) (n : Nat) (p0 : SRecv) (k : Ret2 RW → Option R) : G23 cp (n + 1) p0 (fun r0 r1 => k ⟨.tup [.agg (eRecv r0), .agg (eSegment r1)], [], []⟩) = run2 U cp (callP cp n) n fn23 [.agg (eRecv p0)] [] k := by kernel_rfl
end
/-! tideway/tidewayref08.Tell -/
section
variable (cp : CP) (n : Nat) (k : KX R)
theorem run25 (cp : CP) (n : Nat) (p0 : SRecv) (k : Ret2 RW → Option R) : G25 cp (n + 1) p0 (fun r0 r1 => k ⟨.tup [.agg (eRecv r0), .agg (eSegment r1)], [], []⟩) = run2 U cp (callP cp n) n fn25 [.agg (eRecv p0)] [] k := by kernel_rfl
end
/-! tideway/tidewayref02.Same -/
section
variable (cp : CP) (n : Nat) (k : KX R)
theorem run21 (cp : CP) (n : Nat) (p0 p1 : (List Int)) (k : Ret2 RW → Option R) : G21 cp (n + 1) p0 p1 (fun r0 => k ⟨(tB r0), [], []⟩) = run2 U cp (callP cp n) n fn21 [.row false (.ruint8 p0), .row false (.ruint8 p1)] [] k := by kernel_rfl
end
/-! tideway/tidewayref08.Same -/
section
variable (cp : CP) (n : Nat) (p0 p1 : SRecv) (v160 v162 v163 v164 : Int) (v165 v166 v167 : Bool) (k : KX R)
def w14_0 : Fr := dT 7 ((.hdr 15) :: (sl 0 8 (eRecv p0)))
def w14_1 : Fr := sl 8 7 (eRecv p0) ++ ((.hdr 15) :: (sl 0 8 (eRecv p1)))
def w14_2 : Fr := sl 8 7 (eRecv p1) ++ (dT 9 [])
def fr14_2 : FF := [dT 2 ((.ptr 167 0) :: (.ptr 183 0) :: (dT 12 [])), dc, dc, dc, dc, dc, dc, dc, dc, dc, w14_0 p0, w14_1 p0 p1, w14_2 p1]
def fr14_3 : FF := [dT 4 ((tB false) :: (dT 11 [])), dc, dc, dc, dc, dc, dc, dc, dc, dc, dc, dc, dc]
def fr14_5 : FF := [dT 2 ((.ptr 167 0) :: (.ptr 183 0) :: (dT 1 ((tL 0) :: (dT 10 [])))), dc, dc, dc, dc, dc, dc, dc, dc, dc, w14_0 p0, w14_1 p0 p1, w14_2 p1]
def fr14_7 : FF := [dT 2 ((.ptr 167 0) :: (.ptr 183 0) :: (dT 1 ((tL v162) :: (dT 10 [])))), dc, dc, dc, dc, dc, dc, dc, dc, dc, w14_0 p0, w14_1 p0 p1, w14_2 p1]
def fr14_8 : FF := [dT 2 ((.ptr 167 0) :: (.ptr 183 0) :: (dT 1 ((tL v160) :: (dT 10 [])))), dc, dc, dc, dc, dc, dc, dc, dc, dc, w14_0 p0, w14_1 p0 p1, w14_2 p1]
theorem s14_6_t : X cp n i14_0 (fr14_8 p0 p1 v160) k = s14_6 cp n p0 p1 v160 (fun v162 => k .norm (fr14_7 p0 p1 v162)) (k .ret fr14_3) (k (.exit 0) (fr14_2 p0 p1)) := by kernel_rfl
theorem l14_9_t (cp : CP) (n : Nat) : ∀ (m : Nat) (p0 p1 : SRecv) (v160 : Int) (k : KX R), loopN2 (X cp n i14_0) m (fr14_8 p0 p1 v160) k = l14_9 cp n m p0 p1 v160 (k .ret fr14_3) (k (.exit 0) (fr14_2 p0 p1))
  | 0, _, _, _, _ => rfl
  | m + 1, p0, p1, v160, k => (loopN2_succ (X cp n i14_0) m (fr14_8 p0 p1 v160) k).trans ((s14_6_t cp n p0 p1 v160 (loopT (X cp n i14_0) m k)).trans (tq (congrArg (fun q => s14_6 cp n p0 p1 v160 q (k .ret fr14_3) (k (.exit 0) (fr14_2 p0 p1))) (funext fun v162 => l14_9_t cp n m p0 p1 v162 k)) (by kernel_rfl)))
theorem s14_10_t : X cp n i14_1 (fr14_5 p0 p1) k = s14_10 cp n p0 p1 (k .ret fr14_3) (k (.exit 0) (fr14_2 p0 p1)) := tq (l14_9_t cp n n p0 p1 0 k) (by kernel_rfl)
theorem s14_11_t : X cp n i14_2 (fr14_5 p0 p1) k = s14_11 cp n p0 p1 (k .norm (fr14_2 p0 p1)) (k .ret fr14_3) := tq ((s14_10_t cp n p0 p1 (blkT 0 k)).trans (by kernel_rfl)) (by kernel_rfl)
theorem s14_12_t : X cp n i14_3 (fr14_2 p0 p1) k = s14_12 cp n p0 p1 (k .norm (fr14_2 p0 p1)) (k .ret fr14_3) := ch (fun q => s14_4 cp n p0 p1 q) (fun c => X cp n c (fr14_5 p0 p1) k) i14_2 (fun c => X cp n (.seq (.reg g14_5) c) (fr14_2 p0 p1) k) (fun c => by kernel_rfl) (s14_11_t cp n p0 p1 k) (by kernel_rfl) (by kernel_rfl)
def fr14_14 : FF := [dT 2 ((.ptr 167 0) :: (.ptr 183 0) :: (dT 2 ((tL 0) :: (dT 9 [])))), dc, dc, dc, dc, dc, dc, dc, dc, dc, w14_0 p0, w14_1 p0 p1, w14_2 p1]
def fr14_16 : FF := [dT 2 ((.ptr 167 0) :: (.ptr 183 0) :: (dT 2 ((tL v164) :: (dT 9 [])))), dc, dc, dc, dc, dc, dc, dc, dc, dc, w14_0 p0, w14_1 p0 p1, w14_2 p1]
def fr14_17 : FF := [dc, dc, dc, dc, dc, dc, dc, dc, dc, dc, dc, dc, dc]
def fr14_18 : FF := [dT 2 ((.ptr 167 0) :: (.ptr 183 0) :: (dT 2 ((tL v163) :: (dT 9 [])))), dc, dc, dc, dc, dc, dc, dc, dc, dc, w14_0 p0, w14_1 p0 p1, w14_2 p1]
theorem s14_15_t : X cp n i14_4 (fr14_18 p0 p1 v163) k = s14_15 cp n p0 p1 v163 (fun v164 => k .norm (fr14_16 p0 p1 v164)) (k .ret fr14_3) (k (.exit 2) fr14_17) := by kernel_rfl
theorem l14_19_t (cp : CP) (n : Nat) : ∀ (m : Nat) (p0 p1 : SRecv) (v163 : Int) (k : KX R), loopN2 (X cp n i14_4) m (fr14_18 p0 p1 v163) k = l14_19 cp n m p0 p1 v163 (k .ret fr14_3) (k (.exit 2) fr14_17)
  | 0, _, _, _, _ => rfl
  | m + 1, p0, p1, v163, k => (loopN2_succ (X cp n i14_4) m (fr14_18 p0 p1 v163) k).trans ((s14_15_t cp n p0 p1 v163 (loopT (X cp n i14_4) m k)).trans (tq (congrArg (fun q => s14_15 cp n p0 p1 v163 q (k .ret fr14_3) (k (.exit 2) fr14_17)) (funext fun v164 => l14_19_t cp n m p0 p1 v164 k)) (by kernel_rfl)))
theorem s14_20_t : X cp n i14_5 (fr14_14 p0 p1) k = s14_20 cp n p0 p1 (k .ret fr14_3) (k (.exit 2) fr14_17) := tq (l14_19_t cp n n p0 p1 0 k) (by kernel_rfl)
theorem s14_21_t : X cp n i14_6 (fr14_14 p0 p1) k = s14_21 cp n p0 p1 (k .norm fr14_17) (k .ret fr14_3) := tq ((s14_20_t cp n p0 p1 (blkT 2 k)).trans (by kernel_rfl)) (by kernel_rfl)
theorem s14_22_t : X cp n i14_7 (fr14_2 p0 p1) k = s14_22 cp n p0 p1 (k .norm fr14_17) (k .ret fr14_3) := ch (fun q => s14_13 cp n p0 p1 q) (fun c => X cp n c (fr14_14 p0 p1) k) i14_6 (fun c => X cp n (.seq (.reg g14_10) c) (fr14_2 p0 p1) k) (fun c => by kernel_rfl) (s14_21_t cp n p0 p1 k) (by kernel_rfl) (by kernel_rfl)
def fr14_24 : FF := [dT 4 ((tB true) :: (dT 11 [])), dc, dc, dc, dc, dc, dc, dc, dc, dc, dc, dc, dc]
theorem s14_23_t : X cp n i14_8 fr14_17 k = s14_23 cp n (k .ret fr14_24) := by kernel_rfl
def fr14_25 : FF := [dT 4 ((tB v165) :: (dT 11 [])), dc, dc, dc, dc, dc, dc, dc, dc, dc, dc, dc, dc]
theorem s14_26_t : X cp n i14_9 (fr14_2 p0 p1) k = s14_26 cp n p0 p1 (fun v165 => k .ret (fr14_25 v165)) := tq (tq (congrArg (fun q => s14_22 cp n p0 p1 q (k .ret (fr14_25 false))) ((s14_23_t cp n  k).trans (show _ = s14_23 cp n (k .ret (fr14_25 true)) from by kernel_rfl))) ((s14_22_t cp n p0 p1 (seqT (X cp n) i14_8 k)).trans (by kernel_rfl))) (by kernel_rfl)
def fr14_27 : FF := [dT 4 ((tB v166) :: (dT 11 [])), dc, dc, dc, dc, dc, dc, dc, dc, dc, dc, dc, dc]
theorem s14_28_t : X cp n i14_10 (fr14_2 p0 p1) k = s14_28 cp n p0 p1 (fun v166 => k .ret (fr14_27 v166)) := tq (tq (congrArg (fun q => s14_12 cp n p0 p1 q (k .ret (fr14_27 false))) ((s14_26_t cp n p0 p1 k).trans (show _ = s14_26 cp n p0 p1 (fun v165 => k .ret (fr14_27 v165)) from by kernel_rfl))) ((s14_12_t cp n p0 p1 (seqT (X cp n) i14_9 k)).trans (by kernel_rfl))) (by kernel_rfl)
def fr14_29 : FF := [dT 4 ((tB v167) :: (dT 11 [])), dc, dc, dc, dc, dc, dc, dc, dc, dc, dc, dc, dc]
def fr14_31 : FF := [(.agg (eRecv p0)) :: (.agg (eRecv p1)) :: (dT 14 []), dc, dc, dc, dc, dc, dc, dc, dc, dc, dc, dc, dc]
theorem s14_30_t : X cp n i14_11 (fr14_31 p0 p1) k = s14_30 cp n p0 p1 (fun v167 => k .ret (fr14_29 v167)) := ch (fun q => s14_1 cp n p0 p1 q (k .ret (fr14_29 false))) (fun c => X cp n c (fr14_2 p0 p1) k) i14_10 (fun c => X cp n (.seq (.fin (.reg g14_0) [0, 1, 4] []) (.seq (.seq (.fin (.reg g14_1) [7, 8, 9, 10, 11, 12, 13, 14, 15, 16, 17, 18, 19, 20, 21, 22, 23, 24, 25, 26, 27, 28, 29, 30, 31, 32, 33, 34, 35, 36, 37, 38, 39, 40, 41, 42, 43, 44, 45, 46, 47, 48, 49, 50, 51, 52, 53, 54, 55, 56, 57, 58, 59, 60, 61, 62, 63, 64, 65, 66] []) (.fin (.cond (.s 67) (.seq (.fin (.reg g14_2) [2, 3, 67] [(167, 15), (183, 15)]) (.ret)) (.skip)) [67] [])) (.seq (.seq (.fin (.reg g14_3) [68, 69, 70, 71, 72, 73, 74, 75, 76, 77, 78, 79, 80, 81, 82, 83, 84, 85, 86, 87, 88, 89, 90, 91, 92, 93, 94, 95, 96, 97, 98, 99, 100, 101, 102, 103, 104, 105, 106, 107, 108, 109, 110, 111] []) (.fin (.cond (.s 112) (.seq (.fin (.reg g14_4) [2, 3, 112] [(167, 15), (183, 15)]) (.ret)) (.skip)) [112] [])) c))) (fr14_31 p0 p1) k) (fun c => by kernel_rfl) ((s14_28_t cp n p0 p1 k).trans (show _ = s14_28 cp n p0 p1 (fun v166 => k .ret (fr14_29 v166)) from by kernel_rfl)) (by kernel_rfl) (by kernel_rfl)
theorem run14 (cp : CP) (n : Nat) (p0 p1 : SRecv) (k : Ret2 RW → Option R) : G14 cp (n + 1) p0 p1 (fun r0 => k ⟨(tB r0), [], []⟩) = run2 U cp (callP cp n) n fn14 [.agg (eRecv p0), .agg (eRecv p1)] [] k := ((X_run (f := fn14) (av := [.agg (eRecv p0), .agg (eRecv p1)]) (cells := []) (code := i14_11) (fr := (fr14_31 p0 p1)) (k := k) (by kernel_rfl) (fun K => by kernel_rfl)).trans ((s14_30_t cp n p0 p1 (finK2 fn14 k)).trans (by kernel_rfl))).symm
end
/-! tideway/tidewayref03.Same -/
section
variable (cp : CP) (n : Nat) (p0 p1 : SSegment) (v58 v59 : Int) (v61 v62 v63 : Bool) (k : KX R)
def w45_0 : Fr := dT 13 ((.hdr 15) :: (sl 0 2 (eSegment p0)))
def w45_1 : Fr := sl 2 13 (eSegment p0) ++ ((.hdr 15) :: (sl 0 2 (eSegment p1)))
def w45_2 : Fr := sl 2 13 (eSegment p1) ++ (dT 3 [])
def fr45_2 : FF := [dT 2 ((.ptr 125 0) :: (.ptr 141 0) :: (dT 12 [])), dc, dc, dc, dc, dc, dc, w45_0 p0, w45_1 p0 p1, w45_2 p1]
def fr45_3 : FF := [dT 4 ((tB false) :: (dT 11 [])), dc, dc, dc, dc, dc, dc, dc, dc, dc]
def fr45_5 : FF := [dT 2 ((.ptr 125 0) :: (.ptr 141 0) :: (dT 1 ((tL 0) :: (dT 10 [])))), dc, dc, dc, dc, dc, dc, w45_0 p0, w45_1 p0 p1, w45_2 p1]
def fr45_7 : FF := [dT 2 ((.ptr 125 0) :: (.ptr 141 0) :: (dT 1 ((tL v59) :: (dT 10 [])))), dc, dc, dc, dc, dc, dc, w45_0 p0, w45_1 p0 p1, w45_2 p1]
def fr45_8 : FF := [dT 2 ((.ptr 125 0) :: (.ptr 141 0) :: (dT 1 ((tL v58) :: (dT 10 [])))), dc, dc, dc, dc, dc, dc, w45_0 p0, w45_1 p0 p1, w45_2 p1]
theorem s45_6_t : X cp n i45_0 (fr45_8 p0 p1 v58) k = s45_6 cp n p0 p1 v58 (fun v59 => k .norm (fr45_7 p0 p1 v59)) (k .ret fr45_3) (k (.exit 0) (fr45_2 p0 p1)) := by kernel_rfl
theorem l45_9_t (cp : CP) (n : Nat) : ∀ (m : Nat) (p0 p1 : SSegment) (v58 : Int) (k : KX R), loopN2 (X cp n i45_0) m (fr45_8 p0 p1 v58) k = l45_9 cp n m p0 p1 v58 (k .ret fr45_3) (k (.exit 0) (fr45_2 p0 p1))
  | 0, _, _, _, _ => rfl
  | m + 1, p0, p1, v58, k => (loopN2_succ (X cp n i45_0) m (fr45_8 p0 p1 v58) k).trans ((s45_6_t cp n p0 p1 v58 (loopT (X cp n i45_0) m k)).trans (tq (congrArg (fun q => s45_6 cp n p0 p1 v58 q (k .ret fr45_3) (k (.exit 0) (fr45_2 p0 p1))) (funext fun v59 => l45_9_t cp n m p0 p1 v59 k)) (by kernel_rfl)))
theorem s45_10_t : X cp n i45_1 (fr45_5 p0 p1) k = s45_10 cp n p0 p1 (k .ret fr45_3) (k (.exit 0) (fr45_2 p0 p1)) := tq (l45_9_t cp n n p0 p1 0 k) (by kernel_rfl)
theorem s45_11_t : X cp n i45_2 (fr45_5 p0 p1) k = s45_11 cp n p0 p1 (k .norm (fr45_2 p0 p1)) (k .ret fr45_3) := tq ((s45_10_t cp n p0 p1 (blkT 0 k)).trans (by kernel_rfl)) (by kernel_rfl)
theorem s45_12_t : X cp n i45_3 (fr45_2 p0 p1) k = s45_12 cp n p0 p1 (k .norm (fr45_2 p0 p1)) (k .ret fr45_3) := ch (fun q => s45_4 cp n p0 p1 q) (fun c => X cp n c (fr45_5 p0 p1) k) i45_2 (fun c => X cp n (.seq (.reg g45_5) c) (fr45_2 p0 p1) k) (fun c => by kernel_rfl) (s45_11_t cp n p0 p1 k) (by kernel_rfl) (by kernel_rfl)
def fr45_14 : FF := [dT 4 ((tB v61) :: (dT 11 [])), dc, dc, dc, dc, dc, dc, dc, dc, dc]
theorem s45_13_t : X cp n i45_4 (fr45_2 p0 p1) k = s45_13 cp n p0 p1 (fun v61 => k .ret (fr45_14 v61)) := by kernel_rfl
def fr45_15 : FF := [dT 4 ((tB v62) :: (dT 11 [])), dc, dc, dc, dc, dc, dc, dc, dc, dc]
theorem s45_16_t : X cp n i45_5 (fr45_2 p0 p1) k = s45_16 cp n p0 p1 (fun v62 => k .ret (fr45_15 v62)) := tq (tq (congrArg (fun q => s45_12 cp n p0 p1 q (k .ret (fr45_15 false))) ((s45_13_t cp n p0 p1 k).trans (show _ = s45_13 cp n p0 p1 (fun v61 => k .ret (fr45_15 v61)) from by kernel_rfl))) ((s45_12_t cp n p0 p1 (seqT (X cp n) i45_4 k)).trans (by kernel_rfl))) (by kernel_rfl)
def fr45_17 : FF := [dT 4 ((tB v63) :: (dT 11 [])), dc, dc, dc, dc, dc, dc, dc, dc, dc]
def fr45_19 : FF := [(.agg (eSegment p0)) :: (.agg (eSegment p1)) :: (dT 14 []), dc, dc, dc, dc, dc, dc, dc, dc, dc]
theorem s45_18_t : X cp n i45_6 (fr45_19 p0 p1) k = s45_18 cp n p0 p1 (fun v63 => k .ret (fr45_17 v63)) := ch (fun q => s45_1 cp n p0 p1 q (k .ret (fr45_17 false))) (fun c => X cp n c (fr45_2 p0 p1) k) i45_5 (fun c => X cp n (.seq (.fin (.reg g45_0) [0, 1, 4] []) (.seq (.seq (.fin (.reg g45_1) [6, 7, 8, 9, 10, 11, 12, 13, 14, 15, 16, 17, 18, 19, 20, 21, 22, 23, 24, 25, 26, 27, 28, 29, 30, 31, 32, 33, 34, 35, 36, 37, 38, 39, 40, 41, 42, 43, 44, 45, 46, 47, 48, 49, 50, 51] []) (.fin (.cond (.s 52) (.seq (.fin (.reg g45_2) [2, 3, 52] [(125, 15), (141, 15)]) (.ret)) (.skip)) [52] [])) (.seq (.seq (.fin (.reg g45_3) [53, 54, 55, 56, 57, 58, 59, 60, 61, 62, 63, 64, 65, 66, 67, 68, 69, 70, 71, 72, 73, 74, 75, 76, 77, 78, 79, 80, 81, 82, 83, 84, 85, 86, 87, 88, 89, 90, 91, 92, 93, 94, 95, 96, 97, 98, 99, 100] []) (.fin (.cond (.s 101) (.seq (.fin (.reg g45_4) [2, 3, 101] [(125, 15), (141, 15)]) (.ret)) (.skip)) [101] [])) c))) (fr45_19 p0 p1) k) (fun c => by kernel_rfl) ((s45_16_t cp n p0 p1 k).trans (show _ = s45_16 cp n p0 p1 (fun v62 => k .ret (fr45_17 v62)) from by kernel_rfl)) (by kernel_rfl) (by kernel_rfl)
theorem run45 (cp : CP) (n : Nat) (p0 p1 : SSegment) (k : Ret2 RW → Option R) : G45 cp (n + 1) p0 p1 (fun r0 => k ⟨(tB r0), [], []⟩) = run2 U cp (callP cp n) n fn45 [.agg (eSegment p0), .agg (eSegment p1)] [] k := ((X_run (f := fn45) (av := [.agg (eSegment p0), .agg (eSegment p1)]) (cells := []) (code := i45_6) (fr := (fr45_19 p0 p1)) (k := k) (by kernel_rfl) (fun K => by kernel_rfl)).trans ((s45_18_t cp n p0 p1 (finK2 fn45 k)).trans (by kernel_rfl))).symm
end
/-! tideway/tidewayref08.Told -/
section
variable (cp : CP) (n : Nat) (k : KX R)
theorem run15 (cp : CP) (n : Nat) (p0 p1 : SSegment) (k : Ret2 RW → Option R) : G15 cp (n + 1) p0 p1 (fun r0 => k ⟨(tB r0), [], []⟩) = run2 U cp (callP cp n) n fn15 [.agg (eSegment p0), .agg (eSegment p1)] [] k := by kernel_rfl
end
/-! tideway/recv.Window -/
section
variable (cp : CP) (n : Nat) (k : KX R)
theorem run22 (cp : CP) (n : Nat) (p0 : SRecv) (k : Ret2 RW → Option R) : G22 cp (n + 1) p0 (fun r0 => k ⟨(tL r0), [], []⟩) = run2 U cp (callP cp n) n fn22 [.agg (eRecv p0)] [] k := by kernel_rfl
end
/-! tideway/tidewayref08.Window -/
section
variable (cp : CP) (n : Nat) (k : KX R)
theorem run26 (cp : CP) (n : Nat) (p0 : SRecv) (k : Ret2 RW → Option R) : G26 cp (n + 1) p0 (fun r0 => k ⟨(tL r0), [], []⟩) = run2 U cp (callP cp n) n fn26 [.agg (eRecv p0)] [] k := by kernel_rfl
end
/-! tideway/recv.New -/
section
variable (cp : CP) (n : Nat) (k : KX R)
theorem run17 (cp : CP) (n : Nat) (p0 p1 p2 p3 : Int) (p4 p5 : Bool) (k : Ret2 RW → Option R) : G17 cp (n + 1) p0 p1 p2 p3 p4 p5 (fun r0 r1 => k ⟨.tup [.agg (eRecv r0), (tL r1)], [], []⟩) = run2 U cp (callP cp n) n fn17 [(tL p0), (tL p1), (tI .u32 p2), (tI .u32 p3), (tB p4), (tB p5)] [] k := by kernel_rfl
end
/-! tideway/seq.Diff -/
section
variable (cp : CP) (n : Nat) (k : KX R)
theorem run31 (cp : CP) (n : Nat) (p0 p1 : Int) (k : Ret2 RW → Option R) : G31 cp (n + 1) p0 p1 (fun r0 => k ⟨(tL r0), [], []⟩) = run2 U cp (callP cp n) n fn31 [(tI .u32 p0), (tI .u32 p1)] [] k := by kernel_rfl
end
/-! tideway/seq.Sum -/
section
variable (cp : CP) (n : Nat) (k : KX R)
theorem run58 (cp : CP) (n : Nat) (p0 p1 : Int) (k : Ret2 RW → Option R) : G58 cp (n + 1) p0 p1 (fun r0 => k ⟨(tL r0), [], []⟩) = run2 U cp (callP cp n) n fn58 [(tL p0), (tL p1)] [] k := by kernel_rfl
end
/-! tideway/seq.Unwrap -/
section
variable (cp : CP) (n : Nat) (k : KX R)
theorem run30 (cp : CP) (n : Nat) (p0 p1 : Int) (k : Ret2 RW → Option R) : G30 cp (n + 1) p0 p1 (fun r0 => k ⟨(tL r0), [], []⟩) = run2 U cp (callP cp n) n fn30 [(tL p0), (tI .u32 p1)] [] k := by kernel_rfl
end
/-! tideway/recv.end -/
section
variable (cp : CP) (n : Nat) (p0 : SRecv) (p1 : Int) (v87 : SRecv) (v88 v89 v90 v91 : Int) (v92 : (List Int)) (v94 v95 v96 v97 v98 v99 v100 v101 v102 v103 v104 v105 v106 v107 v108 v109 v110 v112 v113 v114 : Int) (k : KX R)
def w33_0 : Fr := dT 1 ((tL p1) :: (.ptr 32 0) :: (dT 2 ((.ptr 48 0) :: (dT 10 []))))
def w33_1 : Fr := (.hdr 15) :: (eRecv p0)
def fr33_2 : FF := [w33_0 p1, dc, w33_1 p0, (.hdr 1) :: (tL p0.xNext) :: (dT 14 []), dc]
def w33_2 : Fr := dT 1 ((tL p1) :: (.ptr 32 0) :: (dT 2 ((.ptr 48 0) :: (dT 4 ((.clo 70 [(53, 0)]) :: (dT 5 []))))))
def fr33_4 : FF := [w33_2 p1, dc, w33_1 p0, (.hdr 1) :: (tL p0.xNext) :: (dT 3 ((.hdr 15) :: (sl 0 10 (eRecv v87)))), sl 10 5 (eRecv v87) ++ (dT 11 [])]
def fr33_6 : FF := [w33_2 p1, dc, dc, dc, dc]
def y33_5 (cp : CP) (n : Nat) (p1 : Int) : List (TV RW) → FF → (FF → Option R) → Option R := rndT 2 [11] [32, 48, 53, 69] (fr33_6 p1) (X cp n i33_2)
def fr33_8 (p0 : SRecv) (p1 : Int) (v87 : SRecv) (v88 : Int) : FF := [.yld :: (dT 5 ((.row false (.rPiece v87.xLate)) :: (tL v88) :: (tL 0) :: (dT 7 []))), dc, (.hdr 15) :: (eRecv p0), (.hdr 1) :: (tL p0.xNext) :: (dT 3 ((.hdr 15) :: (sl 0 10 (eRecv v87)))), sl 10 5 (eRecv v87) ++ (dT 11 [])]
def fr33_10 (p0 : SRecv) (p1 : Int) (v87 : SRecv) (v88 v89 v90 : Int) : FF := [.yld :: (dT 5 ((.row false (.rPiece v87.xLate)) :: (tL v88) :: (tL v89) :: (dT 7 []))), dc, (.hdr 15) :: (eRecv p0), (.hdr 1) :: (tL v90) :: (dT 3 ((.hdr 15) :: (sl 0 10 (eRecv v87)))), sl 10 5 (eRecv v87) ++ (dT 11 [])]
def fr33_11 (p0 : SRecv) (p1 : Int) (v87 : SRecv) (v90 : Int) : FF := [dc, dc, (.hdr 15) :: (eRecv p0), (.hdr 1) :: (tL v90) :: (dT 3 ((.hdr 15) :: (sl 0 10 (eRecv v87)))), sl 10 5 (eRecv v87) ++ (dT 11 [])]
def fr33_13 (p0 : SRecv) (p1 : Int) (v87 : SRecv) (v88 v89 v90 v91 : Int) (v92 : (List Int)) : FF := [.yld :: (dT 3 ((.ptr 69 0) :: (dT 1 ((.row false (.rPiece v87.xLate)) :: (tL v88) :: (tL v89) :: (dT 7 []))))), dc, (.hdr 15) :: (eRecv p0), (.hdr 1) :: (tL v90) :: (dT 3 ((.hdr 15) :: (sl 0 10 (eRecv v87)))), sl 10 5 (eRecv v87) ++ ((.hdr 2) :: (tL v91) :: (.row false (.ruint8 v92)) :: (dT 8 []))]
def fr33_15 (p0 : SRecv) (p1 : Int) (v87 : SRecv) (v88 v89 v90 v91 : Int) (v92 : (List Int)) (v94 v95 : Int) : FF := [.yld :: (dT 3 ((.ptr 69 0) :: (dT 1 ((.row false (.rPiece v87.xLate)) :: (tL v88) :: (tL v89) :: (dT 3 (.yld :: (.agg [(tL v91), .row false (.ruint8 v92)]) :: (.agg [(tL v94), (tL v95)]) :: (dT 1 []))))))), dc, (.hdr 15) :: (eRecv p0), (.hdr 1) :: (tL v90) :: (dT 3 ((.hdr 15) :: (sl 0 10 (eRecv v87)))), sl 10 5 (eRecv v87) ++ ((.hdr 2) :: (tL v91) :: (.row false (.ruint8 v92)) :: (dT 8 []))]
theorem s33_14_t (cp : CP) (n : Nat) (p0 : SRecv) (p1 : Int) (v87 : SRecv) (v88 v89 v90 v91 : Int) (v92 : (List Int)) (A B : FF → Option R) : (gF (fr33_13 p0 p1 v87 v88 v89 v90 v91 v92) fun l => steps2 U cp (callP cp n) g33_10031 l fun l1 => yGuard2 none l1 (A l1) (B l1)) = s33_14 cp n p0 p1 v87 v88 v89 v90 v91 v92 (fun v94 v95 => A (fr33_15 p0 p1 v87 v88 v89 v90 v91 v92 v94 v95)) := by kernel_rfl
def w33_3 : Fr := sl 10 5 (eRecv v87) ++ ((.hdr 2) :: (tL v91) :: (.row false (.ruint8 v92)) :: (dT 8 []))
def fr33_17 : FF := [w33_2 p1, dc, w33_1 p0, (.hdr 1) :: (tL v95) :: (dT 3 ((.hdr 15) :: (sl 0 10 (eRecv v87)))), w33_3 v87 v91 v92]
def fr33_18 : FF := [dT 1 ((tL p1) :: (.ptr 32 0) :: (dT 2 ((.ptr 48 0) :: (dT 4 ((.clo 70 [(53, 0)]) :: (.agg [(tL v94), (tL v95)]) :: (dT 4 [])))))), dc, w33_1 p0, (.hdr 1) :: (tL v90) :: (dT 3 ((.hdr 15) :: (sl 0 10 (eRecv v87)))), w33_3 v87 v91 v92]
theorem s33_16_t : X cp n i33_2 (fr33_18 p0 p1 v87 v90 v91 v92 v94 v95) k = s33_16 cp n p0 p1 v87 v90 v91 v92 v94 v95 (k .norm (fr33_17 p0 p1 v87 v91 v92 v95)) := by kernel_rfl
def fr33_20 (p0 : SRecv) (p1 : Int) (v87 : SRecv) (v88 v89 v91 : Int) (v92 : (List Int)) (v94 v95 : Int) : FF := [.yld :: (dT 3 ((.ptr 69 0) :: (dT 1 ((.row false (.rPiece v87.xLate)) :: (tL v88) :: (tL v89) :: (dT 3 ([.yld, .agg [(tL v91), .row false (.ruint8 v92)], .agg [(tL v94), (tL v95)], (tB true)])))))), dc, (.hdr 15) :: (eRecv p0), (.hdr 1) :: (tL v95) :: (dT 3 ((.hdr 15) :: (sl 0 10 (eRecv v87)))), sl 10 5 (eRecv v87) ++ ((.hdr 2) :: (tL v91) :: (.row false (.ruint8 v92)) :: (dT 8 []))]
theorem q33_19_t (cp : CP) (n : Nat) (p0 : SRecv) (p1 : Int) (v87 : SRecv) (v88 v89 v90 v91 : Int) (v92 : (List Int)) (v94 v95 : Int) (K : FF → Option R) : yRun2 (y33_5 cp n p1) (.s 12) [.s 14] 15 (fr33_15 p0 p1 v87 v88 v89 v90 v91 v92 v94 v95) K = s33_16 cp n p0 p1 v87 v90 v91 v92 v94 v95 (K (fr33_20 p0 p1 v87 v88 v89 v91 v92 v94 v95)) := ((fun x => (show yRun2 (rndT 2 [11] [32, 48, 53, 69] (fr33_6 p1) x) (.s 12) [.s 14] 15 (fr33_15 p0 p1 v87 v88 v89 v90 v91 v92 v94 v95) K = x (fr33_18 p0 p1 v87 v90 v91 v92 v94 v95) (roundT 2 (fr33_15 p0 p1 v87 v88 v89 v90 v91 v92 v94 v95) (fun l2 => putO l2 (some 15) (.sc (.bool true)) K)) from by kernel_rfl)) (X cp n i33_2)).trans ((s33_16_t cp n p0 p1 v87 v90 v91 v92 v94 v95 (roundT 2 (fr33_15 p0 p1 v87 v88 v89 v90 v91 v92 v94 v95) (fun l2 => putO l2 (some 15) (.sc (.bool true)) K))).trans (by kernel_rfl))
def fr33_21 (p0 : SRecv) (p1 : Int) (v87 : SRecv) (v88 v89 v96 : Int) : FF := [.yld :: (dT 5 ((.row false (.rPiece v87.xLate)) :: (tL v88) :: (tL v89) :: (dT 7 []))), (tB false) :: (dT 15 []), (.hdr 15) :: (eRecv p0), (.hdr 1) :: (tL v96) :: (dT 3 ((.hdr 15) :: (sl 0 10 (eRecv v87)))), sl 10 5 (eRecv v87) ++ (dT 11 [])]
theorem s33_22_t : XI cp n (y33_5 cp n p1) i33_4 (fr33_13 p0 p1 v87 v88 v89 v90 v91 v92) k = s33_22 cp n p0 p1 v87 v88 v89 v90 v91 v92 (fun v96 => k .norm (fr33_21 p0 p1 v87 v88 v89 v96)) := (show XI cp n (y33_5 cp n p1) i33_4 (fr33_13 p0 p1 v87 v88 v89 v90 v91 v92) k = gF (fr33_13 p0 p1 v87 v88 v89 v90 v91 v92) fun l => steps2 U cp (callP cp n) g33_10031 l fun l1 => yGuard2 none l1 ((fun l1 => yRun2 (y33_5 cp n p1) (.s 12) [.s 14] 15 l1 (fun l2 => steps2 U cp (callP cp n) g33_10032 l2 ((clrT [4, 12, 13, 14, 15] [(69, 2)] k) .norm))) l1) ((fun l1 => putO l1 (some 15) (.tup []) fun l2 => steps2 U cp (callP cp n) g33_10032 l2 ((clrT [4, 12, 13, 14, 15] [(69, 2)] k) .norm)) l1) from by kernel_rfl).trans ((s33_14_t cp n p0 p1 v87 v88 v89 v90 v91 v92 (fun l1 => yRun2 (y33_5 cp n p1) (.s 12) [.s 14] 15 l1 (fun l2 => steps2 U cp (callP cp n) g33_10032 l2 ((clrT [4, 12, 13, 14, 15] [(69, 2)] k) .norm))) (fun l1 => putO l1 (some 15) (.tup []) fun l2 => steps2 U cp (callP cp n) g33_10032 l2 ((clrT [4, 12, 13, 14, 15] [(69, 2)] k) .norm))).trans (congrArg (s33_14 cp n p0 p1 v87 v88 v89 v90 v91 v92) (funext fun v94 => funext fun v95 => (q33_19_t cp n p0 p1 v87 v88 v89 v90 v91 v92 v94 v95 (fun l2 => steps2 U cp (callP cp n) g33_10032 l2 ((clrT [4, 12, 13, 14, 15] [(69, 2)] k) .norm))).trans (show s33_16 cp n p0 p1 v87 v90 v91 v92 v94 v95 ((fun l2 => steps2 U cp (callP cp n) g33_10032 l2 ((clrT [4, 12, 13, 14, 15] [(69, 2)] k) .norm)) (fr33_20 p0 p1 v87 v88 v89 v91 v92 v94 v95)) = s33_16 cp n p0 p1 v87 v90 v91 v92 v94 v95 (k .norm (fr33_21 p0 p1 v87 v88 v89 v95)) from by kernel_rfl))))
def fr33_24 (p0 : SRecv) (p1 : Int) (v87 : SRecv) (v88 v89 v96 : Int) : FF := [.yld :: (dT 5 ((.row false (.rPiece v87.xLate)) :: (tL v88) :: (tL v89) :: (dT 7 []))), dc, (.hdr 15) :: (eRecv p0), (.hdr 1) :: (tL v96) :: (dT 3 ((.hdr 15) :: (sl 0 10 (eRecv v87)))), sl 10 5 (eRecv v87) ++ (dT 11 [])]
theorem s33_23_t : XI cp n (y33_5 cp n p1) i33_5 (fr33_21 p0 p1 v87 v88 v89 v96) k = s33_23 cp n p0 p1 v87 v88 v89 v96 (k .norm (fr33_24 p0 p1 v87 v88 v89 v96)) := by kernel_rfl
def fr33_25 (p0 : SRecv) (p1 : Int) (v87 : SRecv) (v88 v89 v97 : Int) : FF := [.yld :: (dT 5 ((.row false (.rPiece v87.xLate)) :: (tL v88) :: (tL v89) :: (dT 7 []))), dc, (.hdr 15) :: (eRecv p0), (.hdr 1) :: (tL v97) :: (dT 3 ((.hdr 15) :: (sl 0 10 (eRecv v87)))), sl 10 5 (eRecv v87) ++ (dT 11 [])]
theorem s33_26_t : XI cp n (y33_5 cp n p1) i33_6 (fr33_13 p0 p1 v87 v88 v89 v90 v91 v92) k = s33_26 cp n p0 p1 v87 v88 v89 v90 v91 v92 (fun v97 => k .norm (fr33_25 p0 p1 v87 v88 v89 v97)) := tq (tq (congrArg (fun q => s33_22 cp n p0 p1 v87 v88 v89 v90 v91 v92 q) (funext fun v96 => (s33_23_t cp n p0 p1 v87 v88 v89 v96 k).trans (show _ = s33_23 cp n p0 p1 v87 v88 v89 v96 (k .norm (fr33_25 p0 p1 v87 v88 v89 v96)) from by kernel_rfl))) ((s33_22_t cp n p0 p1 v87 v88 v89 v90 v91 v92 (seqT (XI cp n (y33_5 cp n p1)) i33_5 k)).trans (by kernel_rfl))) (by kernel_rfl)
def fr33_27 (p0 : SRecv) (p1 : Int) (v87 : SRecv) (v88 v89 v98 : Int) : FF := [.yld :: (dT 5 ((.row false (.rPiece v87.xLate)) :: (tL v88) :: (tL v89) :: (dT 7 []))), dc, (.hdr 15) :: (eRecv p0), (.hdr 1) :: (tL v98) :: (dT 3 ((.hdr 15) :: (sl 0 10 (eRecv v87)))), sl 10 5 (eRecv v87) ++ (dT 11 [])]
theorem s33_28_t : XI cp n (y33_5 cp n p1) i33_7 (fr33_10 p0 p1 v87 v88 v89 v90) k = s33_28 cp n p0 p1 v87 v88 v89 v90 (fun v98 => k .norm (fr33_27 p0 p1 v87 v88 v89 v98)) := ch (fun q => s33_12 cp n p0 p1 v87 v88 v89 v90 q) (fun c v91 v92 => XI cp n (y33_5 cp n p1) c (fr33_13 p0 p1 v87 v88 v89 v90 v91 v92) k) i33_6 (fun c => XI cp n (y33_5 cp n p1) (.seq (.fin (.reg g33_1002) [10, 11] []) c) (fr33_10 p0 p1 v87 v88 v89 v90) k) (fun c => by kernel_rfl) (funext fun v91 => funext fun v92 => (s33_26_t cp n p0 p1 v87 v88 v89 v90 v91 v92 k).trans (show _ = s33_26 cp n p0 p1 v87 v88 v89 v90 v91 v92 (fun v97 => k .norm (fr33_27 p0 p1 v87 v88 v89 v97)) from by kernel_rfl)) (by kernel_rfl) (by kernel_rfl)
def fr33_29 (p0 : SRecv) (p1 : Int) (v87 : SRecv) (v88 v89 v99 : Int) : FF := [.yld :: (dT 5 ((.row false (.rPiece v87.xLate)) :: (tL v88) :: (tL v89) :: (dT 7 []))), dc, (.hdr 15) :: (eRecv p0), (.hdr 1) :: (tL v99) :: (dT 3 ((.hdr 15) :: (sl 0 10 (eRecv v87)))), sl 10 5 (eRecv v87) ++ (dT 11 [])]
theorem s33_30_t : XI cp n (y33_5 cp n p1) i33_8 (fr33_10 p0 p1 v87 v88 v89 v90) k = s33_30 cp n p0 p1 v87 v88 v89 v90 (fun v99 => k .norm (fr33_29 p0 p1 v87 v88 v89 v99)) := tq ((s33_28_t cp n p0 p1 v87 v88 v89 v90 (blkT 1 k)).trans (by kernel_rfl)) (by kernel_rfl)
def fr33_32 (p0 : SRecv) (p1 : Int) (v87 : SRecv) (v88 v99 v100 : Int) : FF := [.yld :: (dT 5 ((.row false (.rPiece v87.xLate)) :: (tL v88) :: (tL v100) :: (dT 7 []))), dc, (.hdr 15) :: (eRecv p0), (.hdr 1) :: (tL v99) :: (dT 3 ((.hdr 15) :: (sl 0 10 (eRecv v87)))), sl 10 5 (eRecv v87) ++ (dT 11 [])]
theorem s33_31_t : XI cp n (y33_5 cp n p1) i33_9 (fr33_29 p0 p1 v87 v88 v89 v99) k = s33_31 cp n p0 p1 v87 v88 v89 v99 (fun v100 => k .norm (fr33_32 p0 p1 v87 v88 v99 v100)) := by kernel_rfl
def fr33_33 (p0 : SRecv) (p1 : Int) (v87 : SRecv) (v88 v101 v102 : Int) : FF := [.yld :: (dT 5 ((.row false (.rPiece v87.xLate)) :: (tL v88) :: (tL v101) :: (dT 7 []))), dc, (.hdr 15) :: (eRecv p0), (.hdr 1) :: (tL v102) :: (dT 3 ((.hdr 15) :: (sl 0 10 (eRecv v87)))), sl 10 5 (eRecv v87) ++ (dT 11 [])]
theorem s33_34_t : XI cp n (y33_5 cp n p1) i33_10 (fr33_10 p0 p1 v87 v88 v89 v90) k = s33_34 cp n p0 p1 v87 v88 v89 v90 (fun v101 v102 => k .norm (fr33_33 p0 p1 v87 v88 v101 v102)) := tq (tq (congrArg (fun q => s33_30 cp n p0 p1 v87 v88 v89 v90 q) (funext fun v99 => (s33_31_t cp n p0 p1 v87 v88 v89 v99 k).trans (show _ = s33_31 cp n p0 p1 v87 v88 v89 v99 (fun v100 => k .norm (fr33_33 p0 p1 v87 v88 v100 v99)) from by kernel_rfl))) ((s33_30_t cp n p0 p1 v87 v88 v89 v90 (seqT (XI cp n (y33_5 cp n p1)) i33_9 k)).trans (by kernel_rfl))) (by kernel_rfl)
def fr33_35 (p0 : SRecv) (p1 : Int) (v87 : SRecv) (v88 v103 v104 : Int) : FF := [.yld :: (dT 5 ((.row false (.rPiece v87.xLate)) :: (tL v88) :: (tL v103) :: (dT 7 []))), dc, (.hdr 15) :: (eRecv p0), (.hdr 1) :: (tL v104) :: (dT 3 ((.hdr 15) :: (sl 0 10 (eRecv v87)))), sl 10 5 (eRecv v87) ++ (dT 11 [])]
theorem s33_36_t : XI cp n (y33_5 cp n p1) i33_11 (fr33_10 p0 p1 v87 v88 v89 v90) k = s33_36 cp n p0 p1 v87 v88 v89 v90 (fun v103 v104 => k .norm (fr33_35 p0 p1 v87 v88 v103 v104)) (k (.exit 0) (fr33_11 p0 p1 v87 v90)) := ch (fun q => s33_9 cp n p0 p1 v87 v88 v89 v90 q (k (.exit 0) (fr33_11 p0 p1 v87 v90))) (fun c => XI cp n (y33_5 cp n p1) c (fr33_10 p0 p1 v87 v88 v89 v90) k) i33_10 (fun c => XI cp n (y33_5 cp n p1) (.seq (.reg g33_1001) (.seq (.fin (.cond (.s 9) (.skip) (.clr [0, 6, 7, 8, 9] [] (.exit 0))) [9] []) c)) (fr33_10 p0 p1 v87 v88 v89 v90) k) (fun c => by kernel_rfl) ((s33_34_t cp n p0 p1 v87 v88 v89 v90 k).trans (show _ = s33_34 cp n p0 p1 v87 v88 v89 v90 (fun v101 v102 => k .norm (fr33_35 p0 p1 v87 v88 v101 v102)) from by kernel_rfl)) (by kernel_rfl) (by kernel_rfl)
def fr33_37 (p0 : SRecv) (p1 : Int) (v87 : SRecv) (v105 : Int) : FF := [dc, dc, (.hdr 15) :: (eRecv p0), (.hdr 1) :: (tL v105) :: (dT 3 ((.hdr 15) :: (sl 0 10 (eRecv v87)))), sl 10 5 (eRecv v87) ++ (dT 11 [])]
theorem l33_38_t (cp : CP) (n : Nat) : ∀ (m : Nat) (p0 : SRecv) (p1 : Int) (v87 : SRecv) (v88 v89 v90 : Int) (k : KX R), loopN2 (XI cp n (y33_5 cp n p1) i33_11) m (fr33_10 p0 p1 v87 v88 v89 v90) k = l33_38 cp n m p0 p1 v87 v88 v89 v90 (fun v105 => k (.exit 0) (fr33_37 p0 p1 v87 v105))
  | 0, _, _, _, _, _, _, _ => rfl
  | m + 1, p0, p1, v87, v88, v89, v90, k => (loopN2_succ (XI cp n (y33_5 cp n p1) i33_11) m (fr33_10 p0 p1 v87 v88 v89 v90) k).trans ((s33_36_t cp n p0 p1 v87 v88 v89 v90 (loopT (XI cp n (y33_5 cp n p1) i33_11) m k)).trans (tq (congrArg (fun q => s33_36 cp n p0 p1 v87 v88 v89 v90 q (k (.exit 0) (fr33_37 p0 p1 v87 v90))) (funext fun v103 => funext fun v104 => l33_38_t cp n m p0 p1 v87 v88 v103 v104 k)) (by kernel_rfl)))
theorem s33_39_t : XI cp n (y33_5 cp n p1) i33_12 (fr33_8 p0 p1 v87 v88) k = s33_39 cp n p0 p1 v87 v88 (fun v105 => k (.exit 0) (fr33_37 p0 p1 v87 v105)) := tq (l33_38_t cp n n p0 p1 v87 v88 0 p0.xNext k) (by kernel_rfl)
def fr33_40 (p0 : SRecv) (p1 : Int) (v87 : SRecv) (v106 : Int) : FF := [dc, dc, (.hdr 15) :: (eRecv p0), (.hdr 1) :: (tL v106) :: (dT 3 ((.hdr 15) :: (sl 0 10 (eRecv v87)))), sl 10 5 (eRecv v87) ++ (dT 11 [])]
theorem s33_41_t : XI cp n (y33_5 cp n p1) i33_13 (fr33_8 p0 p1 v87 v88) k = s33_41 cp n p0 p1 v87 v88 (fun v106 => k .norm (fr33_40 p0 p1 v87 v106)) := tq ((s33_39_t cp n p0 p1 v87 v88 (blkT 0 k)).trans (by kernel_rfl)) (by kernel_rfl)
def fr33_42 (p0 : SRecv) (p1 : Int) (v87 : SRecv) (v107 : Int) : FF := [dc, dc, (.hdr 15) :: (eRecv p0), (.hdr 1) :: (tL v107) :: (dT 3 ((.hdr 15) :: (sl 0 10 (eRecv v87)))), sl 10 5 (eRecv v87) ++ (dT 11 [])]
def fr33_44 (p0 : SRecv) (p1 : Int) (v87 : SRecv) : FF := [.yld :: (.ptr 53 0) :: (dT 14 []), dc, (.hdr 15) :: (eRecv p0), (.hdr 1) :: (tL p0.xNext) :: (dT 3 ((.hdr 15) :: (sl 0 10 (eRecv v87)))), sl 10 5 (eRecv v87) ++ (dT 11 [])]
theorem s33_43_t : XI cp n (y33_5 cp n p1) i33_3 (fr33_44 p0 p1 v87) k = s33_43 cp n p0 p1 v87 (fun v107 => k .norm (fr33_42 p0 p1 v87 v107)) := ch (fun q => s33_7 cp n p0 p1 v87 q) (fun c v88 => XI cp n (y33_5 cp n p1) c (fr33_8 p0 p1 v87 v88) k) i33_13 (fun c => XI cp n (y33_5 cp n p1) (.seq (.fin (.reg g33_1000) [1, 5] []) c) (fr33_44 p0 p1 v87) k) (fun c => by kernel_rfl) (funext fun v88 => (s33_41_t cp n p0 p1 v87 v88 k).trans (show _ = s33_41 cp n p0 p1 v87 v88 (fun v106 => k .norm (fr33_42 p0 p1 v87 v106)) from by kernel_rfl)) (by kernel_rfl) (by kernel_rfl)
def fr33_45 : FF := [w33_0 p1, dc, w33_1 p0, (.hdr 1) :: (tL v108) :: (dT 14 []), dc]
theorem s33_46_t : X cp n i33_14 (fr33_4 p0 p1 v87) k = s33_46 cp n p0 p1 v87 (fun v108 => k .norm (fr33_45 p0 p1 v108)) := (show X cp n i33_14 (fr33_4 p0 p1 v87) k = XI cp n (roundK2 2 [11] [32, 48, 53, 69] (fr33_4 p0 p1 v87) (X cp n i33_0) (X cp n i33_1)) i33_3 (fr33_44 p0 p1 v87) (rfnT 2 (fr33_4 p0 p1 v87) (clrT [10] [(53, 15)] k)) from rfn_eq (v := .clo 70 [(53, 0)]) (by kernel_rfl) (by kernel_rfl) (by kernel_rfl) _ _ _).trans ((congrArg (fun Y => XI cp n Y i33_3 (fr33_44 p0 p1 v87) (rfnT 2 (fr33_4 p0 p1 v87) (clrT [10] [(53, 15)] k))) ((rnd_eq 2 [11] [32, 48, 53, 69] (fr33_4 p0 p1 v87) i33_0 i33_1).trans (show rndT 2 [11] [32, 48, 53, 69] (fr33_4 p0 p1 v87) (X cp n i33_2) = (y33_5 cp n p1) from by kernel_rfl))).trans ((s33_43_t cp n p0 p1 v87 (rfnT 2 (fr33_4 p0 p1 v87) (clrT [10] [(53, 15)] k))).trans (by kernel_rfl)))
def fr33_47 : FF := [w33_0 p1, dc, w33_1 p0, (.hdr 1) :: (tL v109) :: (dT 14 []), dc]
theorem s33_48_t : X cp n i33_15 (fr33_4 p0 p1 v87) k = s33_48 cp n p0 p1 v87 (fun v109 => k .norm (fr33_47 p0 p1 v109)) := tq ((s33_46_t cp n p0 p1 v87 (blkT 0 k)).trans (by kernel_rfl)) (by kernel_rfl)
def fr33_49 : FF := [w33_0 p1, dc, w33_1 p0, (.hdr 1) :: (tL v110) :: (dT 14 []), dc]
theorem s33_50_t : X cp n i33_16 (fr33_2 p0 p1) k = s33_50 cp n p0 p1 (fun v110 => k .norm (fr33_49 p0 p1 v110)) := ch (fun q => s33_3 cp n p0 p1 q) (fun c v87 => X cp n c (fr33_4 p0 p1 v87) k) i33_15 (fun c => X cp n (.seq (.fin (.reg g33_2) [9] []) c) (fr33_2 p0 p1) k) (fun c => by kernel_rfl) (funext fun v87 => (s33_48_t cp n p0 p1 v87 k).trans (show _ = s33_48 cp n p0 p1 v87 (fun v109 => k .norm (fr33_49 p0 p1 v109)) from by kernel_rfl)) (by kernel_rfl) (by kernel_rfl)
def fr33_52 : FF := [dT 4 ((tL v112) :: (dT 11 [])), dc, dc, dc, dc]
theorem s33_51_t : X cp n i33_17 (fr33_49 p0 p1 v110) k = s33_51 cp n p0 p1 v110 (fun v112 => k .ret (fr33_52 v112)) := by kernel_rfl
def fr33_53 : FF := [dT 4 ((tL v113) :: (dT 11 [])), dc, dc, dc, dc]
theorem s33_54_t : X cp n i33_18 (fr33_2 p0 p1) k = s33_54 cp n p0 p1 (fun v113 => k .ret (fr33_53 v113)) := tq (tq (congrArg (fun q => s33_50 cp n p0 p1 q) (funext fun v110 => (s33_51_t cp n p0 p1 v110 k).trans (show _ = s33_51 cp n p0 p1 v110 (fun v112 => k .ret (fr33_53 v112)) from by kernel_rfl))) ((s33_50_t cp n p0 p1 (seqT (X cp n) i33_17 k)).trans (by kernel_rfl))) (by kernel_rfl)
def fr33_55 : FF := [dT 4 ((tL v114) :: (dT 11 [])), dc, dc, dc, dc]
def fr33_57 : FF := [(.agg (eRecv p0)) :: (tL p1) :: (dT 14 []), dc, dc, dc, dc]
theorem s33_56_t : X cp n i33_19 (fr33_57 p0 p1) k = s33_56 cp n p0 p1 (fun v114 => k .ret (fr33_55 v114)) := ch (fun q => s33_1 cp n p0 p1 q) (fun c => X cp n c (fr33_2 p0 p1) k) i33_18 (fun c => X cp n (.seq (.fin (.reg g33_0) [0, 4] []) (.seq (.fin (.reg g33_1) [7, 8] []) c)) (fr33_57 p0 p1) k) (fun c => by kernel_rfl) ((s33_54_t cp n p0 p1 k).trans (show _ = s33_54 cp n p0 p1 (fun v113 => k .ret (fr33_55 v113)) from by kernel_rfl)) (by kernel_rfl) (by kernel_rfl)
theorem run33 (cp : CP) (n : Nat) (p0 : SRecv) (p1 : Int) (k : Ret2 RW → Option R) : G33 cp (n + 1) p0 p1 (fun r0 => k ⟨(tL r0), [], []⟩) = run2 U cp (callP cp n) n fn33 [.agg (eRecv p0), (tL p1)] [] k := ((X_run (f := fn33) (av := [.agg (eRecv p0), (tL p1)]) (cells := []) (code := i33_19) (fr := (fr33_57 p0 p1)) (k := k) (by kernel_rfl) (fun K => by kernel_rfl)).trans ((s33_56_t cp n p0 p1 (finK2 fn33 k)).trans (by kernel_rfl))).symm
end
/-! tideway/span.may -/
section
variable (cp : CP) (n : Nat) (k : KX R)
theorem run82 (cp : CP) (n : Nat) (p0 : SSpan) (k : Ret2 RW → Option R) : G82 cp (n + 1) p0 (fun r0 => k ⟨(tB r0), [], []⟩) = run2 U cp (callP cp n) n fn82 [.agg (eSpan p0)] [] k := by kernel_rfl
end
/-! tideway/span.Check -/
section
variable (cp : CP) (n : Nat) (p0 : (List SSpan)) (v148 v149 v151 v152 v153 : Int) (k : KX R)
def fr78_2 : FF := [(.row false (.rSpan p0)) :: (dT 15 []), dc, dc]
def fr78_4 : FF := [(.row false (.rSpan p0)) :: (dT 4 ((.row false (.rSpan p0)) :: (tL v148) :: (tL 0) :: (dT 8 []))), dc, dc]
def fr78_6 : FF := [(.row false (.rSpan p0)) :: (dT 4 ((.row false (.rSpan p0)) :: (tL v148) :: (tL v151) :: (dT 8 []))), dc, dc]
def fr78_7 : FF := [dT 2 ((tL 60) :: (dT 13 [])), dc, dc]
def fr78_8 : FF := [dc, dc, dc]
def fr78_9 : FF := [(.row false (.rSpan p0)) :: (dT 4 ((.row false (.rSpan p0)) :: (tL v148) :: (tL v149) :: (dT 8 []))), dc, dc]
theorem s78_5_t : X cp n i78_0 (fr78_9 p0 v148 v149) k = s78_5 cp n p0 v148 v149 (fun v151 => k .norm (fr78_6 p0 v148 v151)) (k .ret fr78_7) (k (.exit 0) fr78_8) := by kernel_rfl
theorem l78_10_t (cp : CP) (n : Nat) : ∀ (m : Nat) (p0 : (List SSpan)) (v148 v149 : Int) (k : KX R), loopN2 (X cp n i78_0) m (fr78_9 p0 v148 v149) k = l78_10 cp n m p0 v148 v149 (k .ret fr78_7) (k (.exit 0) fr78_8)
  | 0, _, _, _, _ => rfl
  | m + 1, p0, v148, v149, k => (loopN2_succ (X cp n i78_0) m (fr78_9 p0 v148 v149) k).trans ((s78_5_t cp n p0 v148 v149 (loopT (X cp n i78_0) m k)).trans (tq (congrArg (fun q => s78_5 cp n p0 v148 v149 q (k .ret fr78_7) (k (.exit 0) fr78_8)) (funext fun v151 => l78_10_t cp n m p0 v148 v151 k)) (by kernel_rfl)))
theorem s78_11_t : X cp n i78_1 (fr78_4 p0 v148) k = s78_11 cp n p0 v148 (k .ret fr78_7) (k (.exit 0) fr78_8) := tq (l78_10_t cp n n p0 v148 0 k) (by kernel_rfl)
theorem s78_12_t : X cp n i78_2 (fr78_4 p0 v148) k = s78_12 cp n p0 v148 (k .norm fr78_8) (k .ret fr78_7) := tq ((s78_11_t cp n p0 v148 (blkT 0 k)).trans (by kernel_rfl)) (by kernel_rfl)
theorem s78_13_t : X cp n i78_3 (fr78_2 p0) k = s78_13 cp n p0 (k .norm fr78_8) (k .ret fr78_7) := ch (fun q => s78_3 cp n p0 q) (fun c v148 => X cp n c (fr78_4 p0 v148) k) i78_2 (fun c => X cp n (.seq (.reg g78_1) c) (fr78_2 p0) k) (fun c => by kernel_rfl) (funext fun v148 => s78_12_t cp n p0 v148 k) (by kernel_rfl) (by kernel_rfl)
def fr78_15 : FF := [dT 2 ((tL 0) :: (dT 13 [])), dc, dc]
theorem s78_14_t : X cp n i78_4 fr78_8 k = s78_14 cp n (k .ret fr78_15) := by kernel_rfl
def fr78_16 : FF := [dT 2 ((tL v152) :: (dT 13 [])), dc, dc]
theorem s78_17_t : X cp n i78_5 (fr78_2 p0) k = s78_17 cp n p0 (fun v152 => k .ret (fr78_16 v152)) := tq (tq (congrArg (fun q => s78_13 cp n p0 q (k .ret (fr78_16 60))) ((s78_14_t cp n  k).trans (show _ = s78_14 cp n (k .ret (fr78_16 0)) from by kernel_rfl))) ((s78_13_t cp n p0 (seqT (X cp n) i78_4 k)).trans (by kernel_rfl))) (by kernel_rfl)
def fr78_18 : FF := [dT 2 ((tL v153) :: (dT 13 [])), dc, dc]
theorem s78_19_t : X cp n i78_6 (fr78_2 p0) k = s78_19 cp n p0 (fun v153 => k .ret (fr78_18 v153)) := ch (fun q => s78_1 cp n p0 q) (fun c => X cp n c (fr78_2 p0) k) i78_5 (fun c => X cp n (.seq (.fin (.reg g78_0) [2] []) c) (fr78_2 p0) k) (fun c => by kernel_rfl) ((s78_17_t cp n p0 k).trans (show _ = s78_17 cp n p0 (fun v152 => k .ret (fr78_18 v152)) from by kernel_rfl)) (by kernel_rfl) (by kernel_rfl)
theorem run78 (cp : CP) (n : Nat) (p0 : (List SSpan)) (k : Ret2 RW → Option R) : G78 cp (n + 1) p0 (fun r0 => k ⟨(tL r0), [], []⟩) = run2 U cp (callP cp n) n fn78 [.row false (.rSpan p0)] [] k := ((X_run (f := fn78) (av := [.row false (.rSpan p0)]) (cells := []) (code := i78_6) (fr := (fr78_2 p0)) (k := k) (by kernel_rfl) (fun K => by kernel_rfl)).trans ((s78_19_t cp n p0 (finK2 fn78 k)).trans (by kernel_rfl))).symm
end
end
end Go.Proofs.Ytilmdmjhdidoiaa.M
