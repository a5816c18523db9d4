/- The machine's code of the functions, and that it computes them. -/
import Derived.Test.YtilmdmjhdidoiaaSG0
import Derived.Test.YtilmdmjhdidoiaaProg
import Derived.KernelRfl
set_option maxRecDepth 100000
set_option linter.unusedVariables false
set_option linter.unusedSimpArgs false
namespace Go.Proofs.Ytilmdmjhdidoiaa.M
open Go
noncomputable section
variable {R : Type}
abbrev KX (R : Type) := Ex → FF → Option R
abbrev LS := List (IStep2 RW)
abbrev CW := IC2 RW
def mvS (x : Nat) : IOp2 RW := .mv false (.s x)
def fdS (j x : Nat) : IOp2 RW := .fld j (.s x)
def ldS (h j x : Nat) : IOp2 RW := .load h j 1 false false x
def lnS (x : Nat) : IOp2 RW := .len false (.s x)
def bnS (o : BinOp) (x y : Nat) : IOp2 RW := .bin o (.s x) (.s y)
def ntS (x : Nat) : IOp2 RW := .un .not (.s x)
def ixS (z x y : Nat) : IOp2 RW := .idx z (.s x) (.s y)
def X (cp : CP) (n : Nat) (c : IC2 RW) (l : FF) (k : KX R) : Option R := exec2 U cp (callP cp n) n c l k
theorem X_run {R : Type} {cp : Nat → Nat → Bool} {n : Nat} {f : IFn2 RW} {av : Fr} {cells : List Fr} {code : IC2 RW} {fr : FF} {k : Ret2 RW → Option R} (hb : f.body = code) (h : ∀ K : FF → Option R, start2 f av cells K = K fr) : run2 U cp (callP cp n) n f av cells k = X cp n code fr (finK2 f k) := by
  subst hb
  exact h _
def XI (cp : CP) (n : Nat) (Y : List (TV RW) → FF → (FF → Option R) → Option R) (c : IC2 RW) (l : FF) (k : KX R) : Option R := execI2 U cp (callP cp n) n Y c l k
def o0 (op : IOp2 RW) : IStep2 RW := ⟨none, op, none, false⟩
def o1 (d : Nat) (op : IOp2 RW) : IStep2 RW := ⟨some d, op, none, false⟩
def o2 (d : Nat) (op : IOp2 RW) : IStep2 RW := ⟨some d, op, none, true⟩
def o3 (d g : Nat) (b : Bool) (op : IOp2 RW) : IStep2 RW := ⟨some d, op, some (g, b), false⟩
def g49_0 : LS := [o1 1 (.box 16 15 false (.s 0)),
 o1 2 (.mv false (.k (.sc (.int .i64 0))))]
def g49_1 : LS := [o1 3 (fdS 3 1),
 o1 4 (ldS 16 3 3),
 o1 5 (fdS 1 1),
 o1 6 (ldS 16 1 5),
 o1 7 (lnS 6),
 o1 8 (bnS .sub 4 7),
 o1 9 (fdS 4 1),
 o1 10 (ldS 16 4 9),
 o1 11 (bnS .shr 8 10),
 o1 12 (.mnmx false [.s 11, .k (.sc (.int .i64 65535))]),
 o1 13 (fdS 4 1),
 o1 14 (ldS 16 4 13),
 o1 15 (bnS .shl 12 14),
 o1 2 (mvS 15)]
def i49_0 : CW := .seq (.fin (.reg g49_0) [0, 2] []) (.seq (.fin (.reg g49_1) [1, 3, 4, 5, 6, 7, 8, 9, 10, 11, 12, 13, 14, 15] [(16, 15)]) (.ret))
def fn49 : IFn2 RW := ⟨49, 1, 16, 32, [(16, 15)], [], [], [.slot 2], i49_0⟩
def g17_0 : LS := [o1 12 (.alloc 41 [.sc (.int .i64 0), .row false (.ruint8 []), .row false (.rPiece []), .sc (.int .i64 0), .sc (.int .i64 0), .sc (.int .i64 0), .sc (.int .u32 0), .sc (.bool false), .sc (.bool false), .sc (.int .i64 0), .sc (.bool false), .row false (.rSpan []), .sc (.int .u32 0), .sc (.int .u32 0), .sc (.bool false)]),
 o1 13 (.mv false (.k (.sc (.int .i64 0))))]
def g17_1 : LS := [o1 15 (mvS 0),
 o1 16 (.bin .lss (.s 15) (.k (.sc (.int .i64 1)))),
 o2 17 (mvS 16),
 o3 18 17 false (mvS 0),
 o3 19 17 false (.bin .gtr (.s 18) (.k (.sc (.int .i64 1073741824)))),
 o1 20 (.pick (.s 17) (.k (.sc (.bool true))) (.s 19)),
 o2 21 (mvS 20),
 o3 22 21 false (mvS 1),
 o3 23 21 false (.bin .lss (.s 22) (.k (.sc (.int .i64 0)))),
 o1 24 (.pick (.s 21) (.k (.sc (.bool true))) (.s 23)),
 o2 25 (mvS 24),
 o3 26 25 false (mvS 1),
 o3 27 25 false (.bin .gtr (.s 26) (.k (.sc (.int .i64 14)))),
 o1 28 (.pick (.s 25) (.k (.sc (.bool true))) (.s 27))]
def g17_2 : LS := [o1 29 (.build [.sc (.int .i64 0), .row false (.ruint8 []), .row false (.rPiece []), .sc (.int .i64 0), .sc (.int .i64 0), .sc (.int .i64 0), .sc (.int .u32 0), .sc (.bool false), .sc (.bool false), .sc (.int .i64 0), .sc (.bool false), .row false (.rSpan []), .sc (.int .u32 0), .sc (.int .u32 0), .sc (.bool false)] []),
 o0 (.store 41 0 15 false 12 (.s 29)),
 o1 13 (.mv false (.k (.sc (.int .i64 2))))]
def g17_3 : LS := [o1 30 (mvS 0),
 o1 31 (mvS 1),
 o1 32 (mvS 2),
 o1 33 (mvS 3),
 o1 34 (mvS 4),
 o1 35 (mvS 5),
 o1 36 (.build [.sc (.int .i64 0), .row false (.ruint8 []), .row false (.rPiece []), .sc (.int .i64 0), .sc (.int .i64 0), .sc (.int .i64 0), .sc (.int .u32 0), .sc (.bool false), .sc (.bool false), .sc (.int .i64 0), .sc (.bool false), .row false (.rSpan []), .sc (.int .u32 0), .sc (.int .u32 0), .sc (.bool false)] [(3, 1, .s 30), (4, 1, .s 31), (9, 1, .k (.sc (.int .i64 (-1)))), (12, 1, .s 32), (13, 1, .s 33), (7, 1, .s 34), (8, 1, .s 35)]),
 o1 14 (.alloc 57 [.sc (.int .i64 0), .row false (.ruint8 []), .row false (.rPiece []), .sc (.int .i64 0), .sc (.int .i64 0), .sc (.int .i64 0), .sc (.int .u32 0), .sc (.bool false), .sc (.bool false), .sc (.int .i64 0), .sc (.bool false), .row false (.rSpan []), .sc (.int .u32 0), .sc (.int .u32 0), .sc (.bool false)]),
 o0 (.store 57 0 15 false 14 (.s 36))]
def g17_4 : LS := [o1 37 (.load 57 0 15 true false 14),
 o1 38 (.call 49 [(false, .s 37)] [] []),
 o1 39 (fdS 5 14),
 o0 (.store 57 5 1 false 39 (.s 38))]
def g17_5 : LS := [o1 40 (.load 57 0 15 true false 14),
 o0 (.store 41 0 15 false 12 (.s 40)),
 o1 13 (.mv false (.k (.sc (.int .i64 0))))]
def i17_0 : CW := .seq (.fin (.reg g17_0) [13] []) (.seq (.seq (.fin (.reg g17_1) [15, 16, 17, 18, 19, 20, 21, 22, 23, 24, 25, 26, 27] []) (.fin (.cond (.s 28) (.seq (.fin (.reg g17_2) [0, 1, 2, 3, 4, 5, 28, 29] []) (.ret)) (.skip)) [28] [])) (.seq (.fin (.reg g17_3) [0, 1, 2, 3, 4, 5, 30, 31, 32, 33, 34, 35, 36] []) (.seq (.fin (.reg g17_4) [37, 38, 39] []) (.seq (.fin (.reg g17_5) [14, 40] [(57, 15)]) (.ret)))))
def fn17 : IFn2 RW := ⟨17, 6, 41, 80, [(41, 15), (57, 15)], [], [], [.cell 12 41 15 true, .slot 13], i17_0⟩
def g27_0 : LS := [o1 1 (.box 12 15 false (.s 0)),
 o1 2 (.mv false (.k (.sc (.int .i64 0))))]
def g27_1 : LS := [o1 3 (fdS 0 1),
 o1 4 (ldS 12 0 3),
 o1 5 (fdS 1 1),
 o1 6 (ldS 12 1 5),
 o1 7 (lnS 6),
 o1 8 (bnS .sub 4 7),
 o1 9 (fdS 3 1),
 o1 10 (ldS 12 3 9),
 o1 11 (bnS .add 8 10),
 o1 2 (mvS 11)]
def i27_0 : CW := .seq (.fin (.reg g27_0) [0, 2] []) (.seq (.fin (.reg g27_1) [1, 3, 4, 5, 6, 7, 8, 9, 10, 11] [(12, 15)]) (.ret))
def fn27 : IFn2 RW := ⟨27, 1, 12, 32, [(12, 15)], [], [], [.slot 2], i27_0⟩
def g53_0 : LS := [o1 1 (.box 6 15 false (.s 0)),
 o1 2 (.mv false (.k (.sc (.int .i64 0))))]
def g53_1 : LS := [o1 3 (.load 6 0 15 true false 1),
 o1 4 (.call 27 [(false, .s 3)] [] []),
 o1 5 (.mnmx false [.s 4, .k (.sc (.int .i64 562949953421312))]),
 o1 2 (mvS 5)]
def i53_0 : CW := .seq (.fin (.reg g53_0) [0, 2] []) (.seq (.fin (.reg g53_1) [1, 3, 4, 5] [(6, 15)]) (.ret))
def fn53 : IFn2 RW := ⟨53, 1, 6, 32, [(6, 15)], [], [], [.slot 2], i53_0⟩
def g55_0 : LS := [o1 1 (.box 4 15 false (.s 0)),
 o1 2 (.mv false (.k (.sc .nilFunc)))]
def g55_1 : LS := [o1 3 (.mkclo 70 [.s 1]),
 o1 2 (mvS 3)]
def i55_0 : CW := .seq (.fin (.reg g55_0) [0, 2] []) (.seq (.fin (.reg g55_1) [1, 3] []) (.ret))
def fn55 : IFn2 RW := ⟨55, 1, 4, 32, [(4, 15)], [], [(4, 15)], [.slot 2], i55_0⟩
def g71_0 : LS := [o1 1 (.box 12 2 false (.s 0)),
 o1 2 (.alloc 15 [.sc (.int .i64 0), .sc (.int .i64 0)])]
def g71_1 : LS := [o1 3 (fdS 0 1),
 o1 4 (ldS 12 0 3),
 o1 5 (fdS 0 1),
 o1 6 (ldS 12 0 5),
 o1 7 (fdS 1 1),
 o1 8 (ldS 12 1 7),
 o1 9 (lnS 8),
 o1 10 (bnS .add 6 9),
 o1 11 (.build [.sc (.int .i64 0), .sc (.int .i64 0)] [(0, 1, .s 4), (1, 1, .s 10)]),
 o0 (.store 15 0 2 false 2 (.s 11))]
def i71_0 : CW := .seq (.fin (.reg g71_0) [0] []) (.seq (.fin (.reg g71_1) [1, 3, 4, 5, 6, 7, 8, 9, 10, 11] [(12, 2)]) (.ret))
def fn71 : IFn2 RW := ⟨71, 1, 12, 32, [(12, 2), (15, 2)], [], [], [.cell 2 15 2 true], i71_0⟩
def g1011_2 : LS := [o1 5 (.alloc 50 [.sc (.int .i64 0), .sc (.int .i64 0)]),
 o0 (.store 50 0 2 false 5 (.s 7))]
def i1011_0 : CW := .fin (.reg g1011_2) [7] []
def g1011_3 : LS := [o1 8 (.load 48 0 1 false true 2),
 o1 9 (.load 50 0 2 true false 5),
 o1 10 (.bslice 78 1 [(0, 2, .s 9)]),
 o1 11 (.app 2 16 true (.s 8) (.s 10)),
 o0 (.store 48 0 1 true 2 (.s 11))]
def i1011_1 : CW := .blk 1 (.fin (.reg g1011_3) [5, 8, 9, 10, 11] [(50, 2)])
def i1011_2 : CW := .seq i1011_0 i1011_1
def g1011_1000 : LS := [o1 5 (fdS 2 1),
 o1 6 (ldS 32 2 5),
 o1 7 (lnS 6),
 o1 8 (.mv false (.k (.sc (.int .i64 0))))]
def g1011_1001 : LS := [o1 9 (bnS .lss 8 7)]
def g1011_1002 : LS := [o1 10 (ixS 2 6 8),
 o1 11 (.loade 2 true 10),
 o1 4 (.alloc 53 [.sc (.int .i64 0), .row false (.ruint8 [])]),
 o0 (.store 53 0 2 false 4 (.s 11))]
def g1011_10031 : LS := [o1 12 (mvS 0),
 o1 13 (.load 53 0 2 true false 4),
 o1 14 (.call 71 [(false, .s 13)] [] [])]
def g1011_10032 : LS := [o1 16 (ntS 15)]
def g1011_1004 : LS := [o1 17 (.bin .add (.s 8) (.k (.sc (.int .i64 1)))),
 o1 8 (mvS 17)]
def i1011_3 : CW := .seq (.fin (.reg g1011_1000) [1, 5] []) (.blk 0 (.loop (.seq (.reg g1011_1001) (.seq (.fin (.cond (.s 9) (.skip) (.clr [0, 6, 7, 8, 9] [] (.exit 0))) [9] []) (.seq (.blk 1 (.seq (.fin (.reg g1011_1002) [10, 11] []) (.seq (.fin (.yreg g1011_10031 (.s 12) [.s 14] none 15 g1011_10032) [4, 12, 13, 14, 15] [(53, 2)]) (.fin (.cond (.s 16) (.clr [0, 6, 7, 8, 16] [] (.ret)) (.skip)) [16] [])))) (.fin (.reg g1011_1004) [17] []))))))
def i1011_4 : CW := .fin (.yreg g1011_10031 (.s 12) [.s 14] none 15 g1011_10032) [4, 12, 13, 14, 15] [(53, 2)]
def i1011_5 : CW := .fin (.cond (.s 16) (.clr [0, 6, 7, 8, 16] [] (.ret)) (.skip)) [16] []
def i1011_6 : CW := .seq i1011_4 i1011_5
def i1011_7 : CW := .seq (.fin (.reg g1011_1002) [10, 11] []) i1011_6
def i1011_8 : CW := .blk 1 i1011_7
def i1011_9 : CW := .fin (.reg g1011_1004) [17] []
def i1011_10 : CW := .seq i1011_8 i1011_9
def i1011_11 : CW := .seq (.reg g1011_1001) (.seq (.fin (.cond (.s 9) (.skip) (.clr [0, 6, 7, 8, 9] [] (.exit 0))) [9] []) i1011_10)
def i1011_12 : CW := .loop i1011_11
def i1011_13 : CW := .blk 0 i1011_12
def i1011_14 : CW := .fin (.rfn (.s 6) 70 2 18 [7] i1011_3 i1011_0 i1011_1 [32, 48] [32, 48, 53]) [6] []
def i1011_15 : CW := .blk 0 i1011_14
def g1011_1 : LS := [o1 6 (mvS 1)]
def i1011_16 : CW := .seq (.fin (.reg g1011_1) [1] []) i1011_15
def g1011_4 : LS := [o1 12 (ldS 48 0 2),
 o1 4 (mvS 12)]
def i1011_17 : CW := .seq (.fin (.reg g1011_4) [2, 12] [(48, 1)]) (.ret)
def i1011_18 : CW := .seq i1011_16 i1011_17
def g1011_0 : LS := [o1 2 (.box 48 1 true (.s 0)),
 o1 4 (.mv false (.k (.row false (.rSpan []))))]
def i1011_19 : CW := .seq (.fin (.reg g1011_0) [0, 4] []) i1011_18
def fn1011 : IFn2 RW := ⟨69, 2, 13, 64, [(32, 15), (48, 1), (50, 2), (53, 2)], [(32, 15)], [], [.slot 4], i1011_19⟩
def g1010_0 : LS := [o1 2 (.mv false (.k (.row false (.rSpan []))))]
def g1010_1 : LS := [o1 3 (mvS 0),
 o1 4 (.call 1011 [(true, .k (.row true (.rSpan []))), (false, .s 3)] [(5, 15, 32)] []),
 o1 2 (mvS 4)]
def i1010_0 : CW := .seq (.fin (.reg g1010_0) [2] []) (.seq (.fin (.reg g1010_1) [0, 3, 4] []) (.ret))
def fn1010 : IFn2 RW := ⟨54, 1, 5, 32, [(5, 15)], [(5, 15)], [], [.slot 2], i1010_0⟩
def g72_2 : LS := [o1 9 (bnS .lss 8 7)]
def g72_3 : LS := [o1 10 (mvS 8),
 o1 5 (mvS 10)]
def g72_4 : LS := [o1 11 (.load 19 0 2 true false 3),
 o1 12 (mvS 0),
 o1 13 (mvS 5),
 o1 14 (ixS 2 12 13),
 o1 15 (.loade 2 true 14),
 o1 16 (.eqs [true, true] false (.s 11) (.s 15))]
def g72_5 : LS := [o1 17 (mvS 5),
 o1 4 (mvS 17)]
def g72_6 : LS := [o1 18 (.bin .add (.s 8) (.k (.sc (.int .i64 1)))),
 o1 8 (mvS 18)]
def i72_0 : CW := .seq (.reg g72_2) (.seq (.fin (.cond (.s 9) (.skip) (.clr [0, 3, 7, 8, 9] [(19, 2)] (.exit 0))) [9] []) (.seq (.blk 1 (.seq (.fin (.reg g72_3) [10] []) (.seq (.fin (.reg g72_4) [11, 12, 13, 14, 15] []) (.fin (.cond (.s 16) (.seq (.fin (.reg g72_5) [0, 3, 5, 7, 8, 16, 17] [(19, 2)]) (.ret)) (.skip)) [5, 16] [])))) (.fin (.reg g72_6) [18] [])))
def i72_1 : CW := .loop i72_0
def i72_2 : CW := .blk 0 i72_1
def g72_1 : LS := [o1 6 (mvS 0),
 o1 7 (lnS 6),
 o1 8 (.mv false (.k (.sc (.int .i64 0))))]
def i72_3 : CW := .seq (.fin (.reg g72_1) [6] []) i72_2
def g72_7 : LS := [o1 4 (.mv false (.k (.sc (.int .i64 (-1)))))]
def i72_4 : CW := .seq (.reg g72_7) (.ret)
def i72_5 : CW := .seq i72_3 i72_4
def g72_0 : LS := [o1 3 (.box 19 2 false (.s 1)),
 o1 4 (.mv false (.k (.sc (.int .i64 0))))]
def i72_6 : CW := .seq (.fin (.reg g72_0) [1, 4] []) i72_5
def fn72 : IFn2 RW := ⟨72, 2, 19, 32, [(19, 2)], [], [], [.slot 4], i72_6⟩
def g56_0 : LS := [o1 3 (.box 9 2 false (.s 1)),
 o1 4 (.mv false (.k (.sc (.bool false))))]
def g56_1 : LS := [o1 5 (mvS 0),
 o1 6 (.load 9 0 2 true false 3),
 o1 7 (.call 72 [(false, .s 5), (false, .s 6)] [] []),
 o1 8 (.bin .geq (.s 7) (.k (.sc (.int .i64 0)))),
 o1 4 (mvS 8)]
def i56_0 : CW := .seq (.fin (.reg g56_0) [1, 4] []) (.seq (.fin (.reg g56_1) [0, 3, 5, 6, 7, 8] [(9, 2)]) (.ret))
def fn56 : IFn2 RW := ⟨56, 2, 9, 16, [(9, 2)], [], [], [.slot 4], i56_0⟩
def g28_3 : LS := [o1 16 (bnS .lss 15 14)]
def g28_4 : LS := [o1 17 (ixS 2 13 15),
 o1 18 (.loade 2 true 17),
 o1 5 (.alloc 98 [.sc (.int .i64 0), .row false (.ruint8 [])]),
 o0 (.store 98 0 2 false 5 (.s 18))]
def g28_5 : LS := [o1 19 (fdS 1 5),
 o1 20 (ldS 98 1 19),
 o1 21 (lnS 20),
 o1 6 (mvS 21)]
def g28_6 : LS := [o1 22 (mvS 6),
 o1 23 (.bin .eql (.s 22) (.k (.sc (.int .i64 0)))),
 o2 24 (mvS 23),
 o3 25 24 false (fdS 0 5),
 o3 26 24 false (ldS 98 0 25),
 o3 27 24 false (mvS 3),
 o3 28 24 false (bnS .leq 26 27),
 o1 29 (.pick (.s 24) (.k (.sc (.bool true))) (.s 28)),
 o2 30 (mvS 29),
 o3 31 30 false (fdS 0 5),
 o3 32 30 false (ldS 98 0 31),
 o3 33 30 false (.load 82 0 15 true false 1),
 o3 34 30 false (.call 53 [(false, .s 33)] [] []),
 o3 35 30 false (mvS 6),
 o3 36 30 false (bnS .sub 34 35),
 o3 37 30 false (bnS .gtr 32 36),
 o1 38 (.pick (.s 30) (.k (.sc (.bool true))) (.s 37)),
 o2 39 (mvS 38),
 o3 40 39 false (fdS 9 1),
 o3 41 39 false (ldS 82 9 40),
 o3 42 39 false (.bin .geq (.s 41) (.k (.sc (.int .i64 0)))),
  ⟨some 43, .mv false (.s 42), (some (39, false)), true⟩,
 o3 44 43 true (fdS 0 5),
 o3 45 43 true (ldS 98 0 44),
 o3 46 43 true (fdS 9 1),
 o3 47 43 true (ldS 82 9 46),
 o3 48 43 true (mvS 6),
 o3 49 43 true (bnS .sub 47 48),
 o3 50 43 true (bnS .gtr 45 49),
 o3 51 39 false (.pick (.s 43) (.s 50) (.k (.sc (.bool false)))),
 o1 52 (.pick (.s 39) (.k (.sc (.bool true))) (.s 51))]
def g28_7 : LS := [o1 2 (.mv false (.k (.sc (.bool false))))]
def g28_8 : LS := [o1 53 (fdS 0 5),
 o1 54 (ldS 98 0 53),
 o1 55 (mvS 6),
 o1 56 (bnS .add 54 55),
 o1 3 (mvS 56)]
def g28_9 : LS := [o1 57 (.bin .add (.s 15) (.k (.sc (.int .i64 1)))),
 o1 15 (mvS 57)]
def i28_0 : CW := .seq (.reg g28_3) (.seq (.fin (.cond (.s 16) (.skip) (.clr [3, 13, 14, 15, 16] [] (.exit 0))) [16] []) (.seq (.blk 1 (.seq (.fin (.reg g28_4) [17, 18] []) (.seq (.fin (.reg g28_5) [19, 20, 21] []) (.seq (.seq (.fin (.reg g28_6) [3, 22, 23, 24, 25, 26, 27, 28, 29, 30, 31, 32, 33, 34, 35, 36, 37, 38, 39, 40, 41, 42, 43, 44, 45, 46, 47, 48, 49, 50, 51] []) (.fin (.cond (.s 52) (.seq (.fin (.reg g28_7) [1, 5, 6, 13, 14, 15, 52] [(82, 15), (98, 2)]) (.ret)) (.skip)) [52] [])) (.fin (.reg g28_8) [5, 6, 53, 54, 55, 56] [(98, 2)]))))) (.fin (.reg g28_9) [57] [])))
def i28_1 : CW := .loop i28_0
def i28_2 : CW := .blk 0 i28_1
def g28_2 : LS := [o1 12 (fdS 2 1),
 o1 13 (ldS 82 2 12),
 o1 14 (lnS 13),
 o1 15 (.mv false (.k (.sc (.int .i64 0))))]
def i28_3 : CW := .seq (.fin (.reg g28_2) [12] []) i28_2
def g28_12 : LS := [o1 65 (bnS .lss 64 63)]
def g28_13 : LS := [o1 66 (mvS 64),
 o1 67 (ixS 2 62 64),
 o1 68 (.loade 2 true 67),
 o1 9 (.alloc 101 [.sc (.int .i64 0), .sc (.int .i64 0)]),
 o1 8 (mvS 66),
 o0 (.store 101 0 2 false 9 (.s 68))]
def g28_14 : LS := [o1 69 (mvS 7),
 o1 70 (.load 101 0 2 true false 9),
 o1 71 (.call 56 [(false, .s 69), (false, .s 70)] [] []),
 o1 72 (ntS 71),
 o2 73 (mvS 72),
 o3 74 73 false (fdS 11 1),
 o3 75 73 false (ldS 82 11 74),
 o3 76 73 false (mvS 8),
 o3 77 73 false (.slice 2 (.s 75) none (some (.s 76)) none),
 o3 78 73 false (.load 101 0 2 true false 9),
 o3 79 73 false (.call 56 [(false, .s 77), (false, .s 78)] [] []),
 o1 80 (.pick (.s 73) (.k (.sc (.bool true))) (.s 79))]
def g28_15 : LS := [o1 2 (.mv false (.k (.sc (.bool false))))]
def g28_16 : LS := [o1 81 (.bin .add (.s 64) (.k (.sc (.int .i64 1)))),
 o1 64 (mvS 81)]
def i28_4 : CW := .seq (.reg g28_12) (.seq (.fin (.cond (.s 65) (.skip) (.clr [1, 7, 62, 63, 64, 65] [(82, 15)] (.exit 2))) [65] []) (.seq (.blk 3 (.seq (.fin (.reg g28_13) [66, 67, 68] []) (.seq (.fin (.reg g28_14) [8, 9, 69, 70, 71, 72, 73, 74, 75, 76, 77, 78, 79] [(101, 2)]) (.fin (.cond (.s 80) (.seq (.fin (.reg g28_15) [1, 7, 62, 63, 64, 80] [(82, 15)]) (.ret)) (.skip)) [80] [])))) (.fin (.reg g28_16) [81] [])))
def i28_5 : CW := .loop i28_4
def i28_6 : CW := .blk 2 i28_5
def g28_11 : LS := [o1 61 (fdS 11 1),
 o1 62 (ldS 82 11 61),
 o1 63 (lnS 62),
 o1 64 (.mv false (.k (.sc (.int .i64 0))))]
def i28_7 : CW := .seq (.fin (.reg g28_11) [61] []) i28_6
def g28_17 : LS := [o1 2 (.mv false (.k (.sc (.bool true))))]
def i28_8 : CW := .seq (.reg g28_17) (.ret)
def i28_9 : CW := .seq i28_7 i28_8
def g28_10 : LS := [o1 58 (.load 82 0 15 true false 1),
 o1 59 (.call 55 [(false, .s 58)] [] [(4, 15, 104)]),
 o1 60 (.call 1010 [(false, .s 59)] [(104, 15, 5)] []),
 o1 7 (mvS 60)]
def i28_10 : CW := .seq (.fin (.reg g28_10) [58, 59, 60] [(104, 15)]) i28_9
def i28_11 : CW := .seq i28_3 i28_10
def g28_0 : LS := [o1 1 (.box 82 15 false (.s 0)),
 o1 2 (.mv false (.k (.sc (.bool false))))]
def g28_1 : LS := [o1 10 (fdS 0 1),
 o1 11 (ldS 82 0 10),
 o1 3 (mvS 11)]
def i28_12 : CW := .seq (.fin (.reg g28_0) [0, 2] []) (.seq (.fin (.reg g28_1) [10, 11] []) i28_11)
def fn28 : IFn2 RW := ⟨28, 1, 82, 128, [(82, 15), (98, 2), (101, 2), (104, 15)], [], [], [.slot 2], i28_12⟩
def g10_4 : LS := [o1 79 (.load 102 0 15 true false 1),
 o1 80 (.call 28 [(false, .s 79)] [] []),
 o1 81 (ntS 80),
 o2 82 (mvS 81),
 o3 83 82 false (fdS 10 1),
 o3 84 82 false (ldS 102 10 83),
 o3 85 82 false (fdS 9 1),
 o3 86 82 false (ldS 102 9 85),
 o3 87 82 false (fdS 0 1),
 o3 88 82 false (ldS 102 0 87),
 o3 89 82 false (bnS .eql 86 88),
 o3 90 82 false (.eqb true (.s 84) (.s 89)),
 o1 91 (.pick (.s 82) (.k (.sc (.bool true))) (.s 90)),
 o2 92 (mvS 91),
 o3 93 92 false (fdS 10 1),
 o3 94 92 false (ldS 102 10 93),
  ⟨some 95, .mv false (.s 94), (some (92, false)), true⟩,
 o3 96 95 true (fdS 2 1),
 o3 97 95 true (ldS 102 2 96),
 o3 98 95 true (lnS 97),
 o3 99 95 true (.bin .gtr (.s 98) (.k (.sc (.int .i64 0)))),
 o3 100 92 false (.pick (.s 95) (.s 99) (.k (.sc (.bool false)))),
 o1 101 (.pick (.s 92) (.k (.sc (.bool true))) (.s 100))]
def g10_5 : LS := [o1 2 (.mv false (.k (.sc (.int .i64 230))))]
def g10_6 : LS := [o1 2 (.mv false (.k (.sc (.int .i64 0))))]
def i10_0 : CW := .seq (.seq (.fin (.reg g10_4) [1, 79, 80, 81, 82, 83, 84, 85, 86, 87, 88, 89, 90, 91, 92, 93, 94, 95, 96, 97, 98, 99, 100] [(102, 15)]) (.fin (.cond (.s 101) (.seq (.fin (.reg g10_5) [101] []) (.ret)) (.skip)) [101] [])) (.seq (.reg g10_6) (.ret))
def g10_1 : LS := [o1 4 (fdS 0 1),
 o1 5 (ldS 102 0 4),
 o1 6 (.bin .geq (.s 5) (.k (.sc (.int .i64 0)))),
 o2 7 (mvS 6),
 o3 8 7 true (fdS 0 1),
 o3 9 7 true (ldS 102 0 8),
 o3 10 7 true (.bin .leq (.s 9) (.k (.sc (.int .i64 562949953421312)))),
 o1 11 (.pick (.s 7) (.s 10) (.k (.sc (.bool false)))),
 o2 12 (mvS 11),
 o3 13 12 true (fdS 3 1),
 o3 14 12 true (ldS 102 3 13),
 o3 15 12 true (.bin .geq (.s 14) (.k (.sc (.int .i64 1)))),
 o1 16 (.pick (.s 12) (.s 15) (.k (.sc (.bool false)))),
 o2 17 (mvS 16),
 o3 18 17 true (fdS 3 1),
 o3 19 17 true (ldS 102 3 18),
 o3 20 17 true (.bin .leq (.s 19) (.k (.sc (.int .i64 1073741824)))),
 o1 21 (.pick (.s 17) (.s 20) (.k (.sc (.bool false)))),
 o2 22 (mvS 21),
 o3 23 22 true (fdS 4 1),
 o3 24 22 true (ldS 102 4 23),
 o3 25 22 true (.bin .geq (.s 24) (.k (.sc (.int .i64 0)))),
 o1 26 (.pick (.s 22) (.s 25) (.k (.sc (.bool false)))),
 o2 27 (mvS 26),
 o3 28 27 true (fdS 4 1),
 o3 29 27 true (ldS 102 4 28),
 o3 30 27 true (.bin .leq (.s 29) (.k (.sc (.int .i64 14)))),
 o1 31 (.pick (.s 27) (.s 30) (.k (.sc (.bool false)))),
 o2 32 (mvS 31),
 o3 33 32 true (fdS 1 1),
 o3 34 32 true (ldS 102 1 33),
 o3 35 32 true (lnS 34),
 o3 36 32 true (fdS 3 1),
 o3 37 32 true (ldS 102 3 36),
 o3 38 32 true (fdS 0 1),
 o3 39 32 true (ldS 102 0 38),
 o3 40 32 true (.mnmx false [.s 37, .s 39]),
 o3 41 32 true (bnS .leq 35 40),
 o1 42 (.pick (.s 32) (.s 41) (.k (.sc (.bool false)))),
 o1 3 (mvS 42)]
def g10_2 : LS := [o1 43 (mvS 3),
 o1 44 (ntS 43),
 o2 45 (mvS 44),
 o3 46 45 false (fdS 5 1),
 o3 47 45 false (ldS 102 5 46),
 o3 48 45 false (.bin .lss (.s 47) (.k (.sc (.int .i64 0)))),
 o1 49 (.pick (.s 45) (.k (.sc (.bool true))) (.s 48)),
 o2 50 (mvS 49),
 o3 51 50 false (fdS 5 1),
 o3 52 50 false (ldS 102 5 51),
 o3 53 50 false (.load 102 0 15 true false 1),
 o3 54 50 false (.call 27 [(false, .s 53)] [] []),
 o3 55 50 false (bnS .gtr 52 54),
 o1 56 (.pick (.s 50) (.k (.sc (.bool true))) (.s 55)),
 o2 57 (mvS 56),
 o3 58 57 false (fdS 9 1),
 o3 59 57 false (ldS 102 9 58),
 o3 60 57 false (.bin .lss (.s 59) (.k (.sc (.int .i64 (-1))))),
 o1 61 (.pick (.s 57) (.k (.sc (.bool true))) (.s 60)),
 o2 62 (mvS 61),
 o3 63 62 false (fdS 9 1),
 o3 64 62 false (ldS 102 9 63),
 o3 65 62 false (.bin .geq (.s 64) (.k (.sc (.int .i64 0)))),
  ⟨some 66, .mv false (.s 65), (some (62, false)), true⟩,
 o3 67 66 true (fdS 9 1),
 o3 68 66 true (ldS 102 9 67),
 o3 69 66 true (fdS 0 1),
 o3 70 66 true (ldS 102 0 69),
 o3 71 66 true (bnS .lss 68 70),
 o3 72 62 false (.pick (.s 66) (.s 71) (.k (.sc (.bool false)))),
 o1 73 (.pick (.s 62) (.k (.sc (.bool true))) (.s 72)),
 o2 74 (mvS 73),
 o3 75 74 false (fdS 9 1),
 o3 76 74 false (ldS 102 9 75),
 o3 77 74 false (.bin .gtr (.s 76) (.k (.sc (.int .i64 562949953421312)))),
 o1 78 (.pick (.s 74) (.k (.sc (.bool true))) (.s 77))]
def g10_3 : LS := [o1 2 (.mv false (.k (.sc (.int .i64 230))))]
def i10_1 : CW := .seq (.fin (.reg g10_1) [4, 5, 6, 7, 8, 9, 10, 11, 12, 13, 14, 15, 16, 17, 18, 19, 20, 21, 22, 23, 24, 25, 26, 27, 28, 29, 30, 31, 32, 33, 34, 35, 36, 37, 38, 39, 40, 41, 42] []) (.seq (.seq (.fin (.reg g10_2) [3, 43, 44, 45, 46, 47, 48, 49, 50, 51, 52, 53, 54, 55, 56, 57, 58, 59, 60, 61, 62, 63, 64, 65, 66, 67, 68, 69, 70, 71, 72, 73, 74, 75, 76, 77] []) (.fin (.cond (.s 78) (.seq (.fin (.reg g10_3) [1, 78] [(102, 15)]) (.ret)) (.skip)) [78] [])) i10_0)
def g10_0 : LS := [o1 1 (.box 102 15 false (.s 0)),
 o1 2 (.mv false (.k (.sc (.int .i64 0))))]
def i10_2 : CW := .seq (.fin (.reg g10_0) [0, 2] []) i10_1
def fn10 : IFn2 RW := ⟨10, 1, 102, 128, [(102, 15)], [], [], [.slot 2], i10_2⟩
/-! slices.Clone[[]tideway/api.Span,tideway/api.Span] -/
section
variable (cp : CP) (n : Nat) (k : KX R)
def g57_0 : List IStep := [⟨(some 2), .mv true (.k (.row true 2 0 (fun _ => [.sc (.int .i64 0), .sc (.int .i64 0)]))), none, false⟩]
def g57_1 : List IStep := [⟨(some 3), .mv false (.s 0), none, false⟩,
  ⟨(some 4), .nilq false (.s 3), none, false⟩]
def g57_2 : List IStep := [⟨(some 2), .mv true (.k (.row true 2 0 (fun _ => [.sc (.int .i64 0), .sc (.int .i64 0)]))), none, false⟩]
def g57_3 : List IStep := [⟨(some 5), .bslice 2 0 [.sc (.int .i64 0), .sc (.int .i64 0)] [], none, false⟩,
  ⟨(some 6), .mv false (.s 0), none, false⟩,
  ⟨(some 7), .app 2 16 true (.s 5) (.s 6), none, false⟩,
  ⟨(some 2), .mv true (.s 7), none, false⟩]
def fn57 : IFn := ⟨57, 1, 8, 8, [], [], [], [.slot 2],
  .seq (.fin (.reg g57_0) [2] []) (.seq (.seq (.fin (.reg g57_1) [3] []) (.fin (.cond (.s 4) (.seq (.fin (.reg g57_2) [0, 4] []) (.ret)) (.skip)) [4] [])) (.seq (.fin (.reg g57_3) [0, 5, 6, 7] []) (.ret)))⟩

end
/-! bytes.Clone -/
section
variable (cp : CP) (n : Nat) (k : KX R)
def g52_0 : List IStep := [⟨(some 2), .mv true (.k (.row true 1 0 (fun _ => [.sc (.int .u8 0)]))), none, false⟩]
def g52_1 : List IStep := [⟨(some 3), .mv false (.s 0), none, false⟩,
  ⟨(some 4), .nilq false (.s 3), none, false⟩]
def g52_2 : List IStep := [⟨(some 2), .mv true (.k (.row true 1 0 (fun _ => [.sc (.int .u8 0)]))), none, false⟩]
def g52_3 : List IStep := [⟨(some 5), .bslice 1 0 [.sc (.int .u8 0)] [], none, false⟩,
  ⟨(some 6), .mv false (.s 0), none, false⟩,
  ⟨(some 7), .app 1 1 true (.s 5) (.s 6), none, false⟩,
  ⟨(some 2), .mv true (.s 7), none, false⟩]
def fn52 : IFn := ⟨52, 1, 8, 8, [], [], [], [.slot 2],
  .seq (.fin (.reg g52_0) [2] []) (.seq (.seq (.fin (.reg g52_1) [3] []) (.fin (.cond (.s 4) (.seq (.fin (.reg g52_2) [0, 4] []) (.ret)) (.skip)) [4] [])) (.seq (.fin (.reg g52_3) [0, 5, 6, 7] []) (.ret)))⟩

def g29_6 : LS := [o1 21 (bnS .lss 20 19)]
def g29_7 : LS := [o1 22 (ixS 2 18 20),
 o1 23 (.loade 2 true 22),
 o1 5 (.alloc 69 [.sc (.int .i64 0), .row false (.ruint8 [])]),
 o0 (.store 69 0 2 false 5 (.s 23))]
def g29_8 : LS := [o1 24 (fdS 2 1),
 o1 25 (.load 37 2 1 false true 24),
 o1 26 (fdS 0 5),
 o1 27 (ldS 69 0 26),
 o1 28 (fdS 1 5),
 o1 29 (ldS 69 1 28),
 o1 30 (.call 52 [(false, .s 29)] [] []),
 o1 31 (.build [.sc (.int .i64 0), .row false (.ruint8 [])] [(0, 1, .s 27), (1, 1, .s 30)]),
 o1 32 (.bslice 74 1 [(0, 2, .s 31)]),
 o1 33 (.app 2 32 true (.s 25) (.s 32)),
 o1 34 (fdS 2 1),
 o0 (.store 37 2 1 true 34 (.s 33))]
def g29_9 : LS := [o1 35 (.bin .add (.s 20) (.k (.sc (.int .i64 1)))),
 o1 20 (mvS 35)]
def i29_0 : CW := .seq (.reg g29_6) (.seq (.fin (.cond (.s 21) (.skip) (.clr [18, 19, 20, 21] [] (.exit 0))) [21] []) (.seq (.blk 1 (.seq (.fin (.reg g29_7) [22, 23] []) (.fin (.reg g29_8) [5, 24, 25, 26, 27, 28, 29, 30, 31, 32, 33, 34] [(69, 2)]))) (.fin (.reg g29_9) [35] [])))
def i29_1 : CW := .loop i29_0
def i29_2 : CW := .blk 0 i29_1
def g29_5 : LS := [o1 18 (mvS 3),
 o1 19 (lnS 18),
 o1 20 (.mv false (.k (.sc (.int .i64 0))))]
def i29_3 : CW := .seq (.fin (.reg g29_5) [3] []) i29_2
def g29_10 : LS := [o1 36 (.load 37 0 15 true true 1),
 o0 (.store 53 0 15 true 2 (.s 36))]
def i29_4 : CW := .seq (.fin (.reg g29_10) [1, 36] [(37, 15)]) (.ret)
def i29_5 : CW := .seq i29_3 i29_4
def g29_0 : LS := [o1 1 (.box 37 15 true (.s 0)),
 o1 2 (.alloc 53 [.sc (.int .i64 0), .row true (.ruint8 []), .row true (.rPiece []), .sc (.int .i64 0), .sc (.int .i64 0), .sc (.int .i64 0), .sc (.int .u32 0), .sc (.bool false), .sc (.bool false), .sc (.int .i64 0), .sc (.bool false), .row true (.rSpan []), .sc (.int .u32 0), .sc (.int .u32 0), .sc (.bool false)])]
def g29_1 : LS := [o1 6 (.bslice 5 0 []),
 o1 7 (fdS 1 1),
 o1 8 (ldS 37 1 7),
 o1 9 (.app 1 1 true (.s 6) (.s 8)),
 o1 10 (fdS 1 1),
 o0 (.store 37 1 1 true 10 (.s 9))]
def g29_2 : LS := [o1 11 (fdS 11 1),
 o1 12 (ldS 37 11 11),
 o1 13 (.call 57 [(false, .s 12)] [] []),
 o1 14 (fdS 11 1),
 o0 (.store 37 11 1 true 14 (.s 13))]
def g29_3 : LS := [o1 15 (fdS 2 1),
 o1 16 (ldS 37 2 15),
 o1 3 (mvS 16)]
def g29_4 : LS := [o1 17 (fdS 2 1),
 o0 (.store 37 2 1 true 17 (.k (.row true (.rPiece []))))]
def i29_6 : CW := .seq (.fin (.reg g29_0) [0] []) (.seq (.fin (.reg g29_1) [6, 7, 8, 9, 10] []) (.seq (.fin (.reg g29_2) [11, 12, 13, 14] []) (.seq (.fin (.reg g29_3) [15, 16] []) (.seq (.fin (.reg g29_4) [17] []) i29_5))))
def fn29 : IFn2 RW := ⟨29, 1, 37, 80, [(37, 15), (53, 15), (69, 2)], [], [], [.cell 2 53 15 true], i29_6⟩
def g31_0 : LS := [o1 4 (.mv false (.k (.sc (.int .i64 0))))]
def g31_1 : LS := [o1 5 (mvS 1),
 o1 6 (mvS 0),
 o1 7 (bnS .sub 5 6),
 o1 8 (.conv .i32 (.s 7)),
 o1 9 (.conv .i64 (.s 8)),
 o1 4 (mvS 9)]
def i31_0 : CW := .seq (.fin (.reg g31_0) [4] []) (.seq (.fin (.reg g31_1) [0, 1, 5, 6, 7, 8, 9] []) (.ret))
def fn31 : IFn2 RW := ⟨31, 2, 10, 16, [], [], [], [.slot 4], i31_0⟩
def g58_0 : LS := [o1 4 (.mv false (.k (.sc (.int .i64 0))))]
def g58_1 : LS := [o1 6 (mvS 0),
 o1 7 (mvS 1),
 o1 8 (bnS .add 6 7),
 o1 5 (mvS 8)]
def g58_2 : LS := [o1 10 (mvS 0),
 o1 11 (.bin .gtr (.s 10) (.k (.sc (.int .i64 0)))),
 o2 12 (mvS 11),
 o3 13 12 true (mvS 1),
 o3 14 12 true (.bin .gtr (.s 13) (.k (.sc (.int .i64 0)))),
 o1 15 (.pick (.s 12) (.s 14) (.k (.sc (.bool false)))),
 o2 16 (mvS 15),
 o3 17 16 true (mvS 5),
 o3 18 16 true (.bin .lss (.s 17) (.k (.sc (.int .i64 0)))),
 o1 19 (.pick (.s 16) (.s 18) (.k (.sc (.bool false)))),
 o1 9 (mvS 19)]
def g58_3 : LS := [o1 4 (.mv false (.k (.sc (.int .i64 9223372036854775807))))]
def g58_4 : LS := [o1 21 (mvS 0),
 o1 22 (.bin .lss (.s 21) (.k (.sc (.int .i64 0)))),
 o2 23 (mvS 22),
 o3 24 23 true (mvS 1),
 o3 25 23 true (.bin .lss (.s 24) (.k (.sc (.int .i64 0)))),
 o1 26 (.pick (.s 23) (.s 25) (.k (.sc (.bool false)))),
 o2 27 (mvS 26),
 o3 28 27 true (mvS 5),
 o3 29 27 true (.bin .geq (.s 28) (.k (.sc (.int .i64 0)))),
 o1 30 (.pick (.s 27) (.s 29) (.k (.sc (.bool false)))),
 o1 20 (mvS 30)]
def g58_5 : LS := [o1 4 (.mv false (.k (.sc (.int .i64 (-9223372036854775808)))))]
def g58_6 : LS := [o1 31 (mvS 5),
 o1 4 (mvS 31)]
def i58_0 : CW := .seq (.fin (.reg g58_0) [4] []) (.seq (.fin (.reg g58_1) [6, 7, 8] []) (.seq (.blk 0 (.seq (.fin (.reg g58_2) [10, 11, 12, 13, 14, 15, 16, 17, 18, 19] []) (.cond (.s 9) (.seq (.fin (.reg g58_3) [0, 1, 5, 9] []) (.ret)) (.seq (.fin (.reg g58_4) [0, 1, 9, 21, 22, 23, 24, 25, 26, 27, 28, 29, 30] []) (.fin (.cond (.s 20) (.seq (.fin (.reg g58_5) [5, 20] []) (.ret)) (.skip)) [20] []))))) (.seq (.fin (.reg g58_6) [5, 31] []) (.ret))))
def fn58 : IFn2 RW := ⟨58, 2, 32, 32, [], [], [], [.slot 4], i58_0⟩
def g30_0 : LS := [o1 4 (.mv false (.k (.sc (.int .i64 0))))]
def g30_1 : LS := [o1 5 (mvS 0),
 o1 6 (mvS 0),
 o1 7 (.conv .u32 (.s 6)),
 o1 8 (mvS 1),
 o1 9 (.call 31 [(false, .s 7), (false, .s 8)] [] []),
 o1 10 (.call 58 [(false, .s 5), (false, .s 9)] [] []),
 o1 4 (mvS 10)]
def i30_0 : CW := .seq (.fin (.reg g30_0) [4] []) (.seq (.fin (.reg g30_1) [0, 1, 5, 6, 7, 8, 9, 10] []) (.ret))
def fn30 : IFn2 RW := ⟨30, 2, 11, 16, [], [], [], [.slot 4], i30_0⟩
def g36_0 : LS := [o1 4 (.mv false (.k (.sc (.int .u32 0))))]
def g36_1 : LS := [o1 5 (mvS 0),
 o1 6 (mvS 1),
 o1 7 (.conv .u32 (.s 6)),
 o1 8 (bnS .add 5 7),
 o1 4 (mvS 8)]
def i36_0 : CW := .seq (.fin (.reg g36_0) [4] []) (.seq (.fin (.reg g36_1) [0, 1, 5, 6, 7, 8] []) (.ret))
def fn36 : IFn2 RW := ⟨36, 2, 9, 16, [], [], [], [.slot 4], i36_0⟩
def g32_10 : LS := [o1 42 (bnS .lss 41 40)]
def g32_11 : LS := [o1 43 (ixS 2 39 41),
 o1 44 (.loade 2 true 43),
 o1 10 (.alloc 146 [.sc (.int .i64 0), .sc (.int .i64 0)]),
 o0 (.store 146 0 2 false 10 (.s 44))]
def g32_12 : LS := [o1 45 (fdS 8 2),
 o1 46 (ldS 82 8 45),
 o2 47 (mvS 46),
 o3 48 47 true (fdS 13 7),
 o3 49 47 true (ldS 130 13 48),
 o3 50 47 true (lnS 49),
 o3 51 47 true (mvS 8),
 o3 52 47 true (bnS .lss 50 51),
 o1 53 (.pick (.s 47) (.s 52) (.k (.sc (.bool false))))]
def g32_13 : LS := [o1 54 (fdS 13 7),
 o1 55 (.load 130 13 1 false true 54),
 o1 56 (fdS 12 2),
 o1 57 (ldS 82 12 56),
 o1 58 (fdS 0 10),
 o1 59 (ldS 146 0 58),
 o1 60 (.call 36 [(false, .s 57), (false, .s 59)] [] []),
 o1 61 (fdS 12 2),
 o1 62 (ldS 82 12 61),
 o1 63 (fdS 1 10),
 o1 64 (ldS 146 1 63),
 o1 65 (.call 36 [(false, .s 62), (false, .s 64)] [] []),
 o1 66 (.build [.sc (.int .u32 0), .sc (.int .u32 0)] [(0, 1, .s 60), (1, 1, .s 65)]),
 o1 67 (.bslice 62 1 [(0, 2, .s 66)]),
 o1 68 (.app 2 8 true (.s 55) (.s 67)),
 o1 69 (fdS 13 7),
 o0 (.store 130 13 1 true 69 (.s 68))]
def g32_14 : LS := [o1 70 (.bin .add (.s 41) (.k (.sc (.int .i64 1)))),
 o1 41 (mvS 70)]
def i32_0 : CW := .seq (.reg g32_10) (.seq (.fin (.cond (.s 42) (.skip) (.clr [8, 39, 40, 41, 42] [] (.exit 0))) [42] []) (.seq (.blk 1 (.seq (.fin (.reg g32_11) [43, 44] []) (.seq (.fin (.reg g32_12) [45, 46, 47, 48, 49, 50, 51, 52] []) (.fin (.cond (.s 53) (.fin (.reg g32_13) [10, 53, 54, 55, 56, 57, 58, 59, 60, 61, 62, 63, 64, 65, 66, 67, 68, 69] [(146, 2)]) (.skip)) [10, 53] [(146, 2)])))) (.fin (.reg g32_14) [70] [])))
def i32_1 : CW := .loop i32_0
def i32_2 : CW := .blk 0 i32_1
def g32_9 : LS := [o1 38 (fdS 11 2),
 o1 39 (ldS 82 11 38),
 o1 40 (lnS 39),
 o1 41 (.mv false (.k (.sc (.int .i64 0))))]
def i32_3 : CW := .seq (.fin (.reg g32_9) [38] []) i32_2
def g32_15 : LS := [o1 71 (fdS 5 2),
 o1 72 (ldS 82 5 71),
 o1 73 (fdS 0 2),
 o1 74 (ldS 82 0 73),
 o1 75 (.load 82 0 15 true false 2),
 o1 76 (.call 49 [(false, .s 75)] [] []),
 o1 77 (bnS .add 74 76),
 o1 78 (.mnmx true [.s 72, .s 77]),
 o1 79 (fdS 5 2),
 o0 (.store 82 5 1 false 79 (.s 78))]
def g32_16 : LS := [o1 80 (.load 82 0 15 true true 2),
 o1 81 (.load 130 0 15 true true 7),
 o0 (.store 98 0 15 true 4 (.s 80)),
 o0 (.store 114 0 15 true 5 (.s 81))]
def i32_4 : CW := .seq (.fin (.reg g32_15) [71, 72, 73, 74, 75, 76, 77, 78, 79] []) (.seq (.fin (.reg g32_16) [2, 7, 80, 81] [(82, 15), (130, 15)]) (.ret))
def i32_5 : CW := .seq i32_3 i32_4
def g32_0 : LS := [o1 2 (.box 82 15 true (.s 0)),
 o1 4 (.alloc 98 [.sc (.int .i64 0), .row true (.ruint8 []), .row true (.rPiece []), .sc (.int .i64 0), .sc (.int .i64 0), .sc (.int .i64 0), .sc (.int .u32 0), .sc (.bool false), .sc (.bool false), .sc (.int .i64 0), .sc (.bool false), .row true (.rSpan []), .sc (.int .u32 0), .sc (.int .u32 0), .sc (.bool false)]),
 o1 5 (.alloc 114 [.sc (.int .i64 0), .sc (.int .i64 0), .sc (.int .u32 0), .sc (.int .u32 0), .sc (.int .i64 0), .sc (.int .i64 0), .sc (.int .i64 0), .sc (.int .i64 0), .sc (.int .i64 0), .sc (.bool false), .sc (.bool false), .sc (.int .u32 0), .sc (.int .u32 0), .row true (.rBlock []), .row true (.ruint8 [])])]
def g32_1 : LS := [o1 11 (fdS 0 2),
 o1 12 (ldS 82 0 11),
 o1 6 (mvS 12)]
def g32_2 : LS := [o1 13 (fdS 10 2),
 o1 14 (ldS 82 10 13)]
def g32_3 : LS := [o1 15 (mvS 6),
 o1 16 (.bin .add (.s 15) (.k (.sc (.int .i64 1)))),
 o1 6 (mvS 16)]
def g32_4 : LS := [o1 17 (fdS 13 2),
 o1 18 (ldS 82 13 17),
 o1 19 (fdS 12 2),
 o1 20 (ldS 82 12 19),
 o1 21 (mvS 6),
 o1 22 (.call 36 [(false, .s 20), (false, .s 21)] [] []),
 o1 23 (.load 82 0 15 true false 2),
 o1 24 (.call 49 [(false, .s 23)] [] []),
 o1 25 (fdS 4 2),
 o1 26 (ldS 82 4 25),
 o1 27 (bnS .shr 24 26),
 o1 28 (.mv true (.s 1)),
 o1 29 (.buildl [.sc (.int .i64 0), .sc (.int .i64 0), .sc (.int .u32 0), .sc (.int .u32 0), .sc (.int .i64 0), .sc (.int .i64 0), .sc (.int .i64 0), .sc (.int .i64 0), .sc (.int .i64 0), .sc (.bool false), .sc (.bool false), .sc (.int .u32 0), .sc (.int .u32 0), .row false (.rBlock []), .row false (.ruint8 [])] [(2, 1, .s 18), (3, 1, .s 22), (4, 1, .k (.sc (.int .i64 16))), (5, 1, .s 27), (7, 1, .k (.sc (.int .i64 (-1)))), (8, 1, .k (.sc (.int .i64 (-1)))), (13, 1, .s 28)] 13 28),
 o1 7 (.alloc 130 [.sc (.int .i64 0), .sc (.int .i64 0), .sc (.int .u32 0), .sc (.int .u32 0), .sc (.int .i64 0), .sc (.int .i64 0), .sc (.int .i64 0), .sc (.int .i64 0), .sc (.int .i64 0), .sc (.bool false), .sc (.bool false), .sc (.int .u32 0), .sc (.int .u32 0), .row true (.rBlock []), .row true (.ruint8 [])]),
 o0 (.store 130 0 15 true 7 (.s 29))]
def g32_5 : LS := [o1 8 (.mv false (.k (.sc (.int .i64 4))))]
def g32_6 : LS := [o1 30 (fdS 7 2),
 o1 31 (ldS 82 7 30)]
def g32_7 : LS := [o1 32 (fdS 6 2),
 o1 33 (ldS 82 6 32),
 o1 34 (fdS 10 7),
 o0 (.store 130 10 1 false 34 (.k (.sc (.bool true)))),
 o1 35 (fdS 12 7),
 o0 (.store 130 12 1 false 35 (.s 33))]
def g32_8 : LS := [o1 36 (mvS 8),
 o1 37 (.bin .sub (.s 36) (.k (.sc (.int .i64 1)))),
 o1 8 (mvS 37)]
def i32_6 : CW := .seq (.fin (.reg g32_0) [0] []) (.seq (.fin (.reg g32_1) [11, 12] []) (.seq (.seq (.fin (.reg g32_2) [13] []) (.fin (.cond (.s 14) (.fin (.reg g32_3) [14, 15, 16] []) (.skip)) [14] [])) (.seq (.fin (.reg g32_4) [1, 6, 17, 18, 19, 20, 21, 22, 23, 24, 25, 26, 27, 28, 29] []) (.seq (.reg g32_5) (.seq (.seq (.fin (.reg g32_6) [30] []) (.fin (.cond (.s 31) (.seq (.fin (.reg g32_7) [31, 32, 33, 34, 35] []) (.fin (.reg g32_8) [36, 37] [])) (.skip)) [31] [])) i32_5)))))
def fn32 : IFn2 RW := ⟨32, 2, 82, 160, [(82, 15), (98, 15), (114, 15), (130, 15), (146, 2)], [], [], [.cell 4 98 15 true, .cell 5 114 15 true], i32_6⟩
def g33_3 : LS := [o1 6 (.alloc 50 [.sc (.int .i64 0), .sc (.int .i64 0)]),
 o0 (.store 50 0 2 false 6 (.s 11))]
def i33_0 : CW := .fin (.reg g33_3) [11] []
def g33_4 : LS := [o1 12 (fdS 1 6),
 o1 13 (ldS 50 1 12),
 o0 (.store 48 0 1 false 5 (.s 13))]
def i33_1 : CW := .blk 1 (.fin (.reg g33_4) [6, 12, 13] [(50, 2)])
def i33_2 : CW := .seq i33_0 i33_1
def g33_1000 : LS := [o1 5 (fdS 2 1),
 o1 6 (ldS 53 2 5),
 o1 7 (lnS 6),
 o1 8 (.mv false (.k (.sc (.int .i64 0))))]
def g33_1001 : LS := [o1 9 (bnS .lss 8 7)]
def g33_1002 : LS := [o1 10 (ixS 2 6 8),
 o1 11 (.loade 2 true 10),
 o1 4 (.alloc 69 [.sc (.int .i64 0), .row false (.ruint8 [])]),
 o0 (.store 69 0 2 false 4 (.s 11))]
def g33_10031 : LS := [o1 12 (mvS 0),
 o1 13 (.load 69 0 2 true false 4),
 o1 14 (.call 71 [(false, .s 13)] [] [])]
def g33_10032 : LS := [o1 16 (ntS 15)]
def g33_1004 : LS := [o1 17 (.bin .add (.s 8) (.k (.sc (.int .i64 1)))),
 o1 8 (mvS 17)]
def i33_3 : CW := .seq (.fin (.reg g33_1000) [1, 5] []) (.blk 0 (.loop (.seq (.reg g33_1001) (.seq (.fin (.cond (.s 9) (.skip) (.clr [0, 6, 7, 8, 9] [] (.exit 0))) [9] []) (.seq (.blk 1 (.seq (.fin (.reg g33_1002) [10, 11] []) (.seq (.fin (.yreg g33_10031 (.s 12) [.s 14] none 15 g33_10032) [4, 12, 13, 14, 15] [(69, 2)]) (.fin (.cond (.s 16) (.clr [0, 6, 7, 8, 16] [] (.ret)) (.skip)) [16] [])))) (.fin (.reg g33_1004) [17] []))))))
def i33_4 : CW := .fin (.yreg g33_10031 (.s 12) [.s 14] none 15 g33_10032) [4, 12, 13, 14, 15] [(69, 2)]
def i33_5 : CW := .fin (.cond (.s 16) (.clr [0, 6, 7, 8, 16] [] (.ret)) (.skip)) [16] []
def i33_6 : CW := .seq i33_4 i33_5
def i33_7 : CW := .seq (.fin (.reg g33_1002) [10, 11] []) i33_6
def i33_8 : CW := .blk 1 i33_7
def i33_9 : CW := .fin (.reg g33_1004) [17] []
def i33_10 : CW := .seq i33_8 i33_9
def i33_11 : CW := .seq (.reg g33_1001) (.seq (.fin (.cond (.s 9) (.skip) (.clr [0, 6, 7, 8, 9] [] (.exit 0))) [9] []) i33_10)
def i33_12 : CW := .loop i33_11
def i33_13 : CW := .blk 0 i33_12
def i33_14 : CW := .fin (.rfn (.s 10) 70 2 18 [11] i33_3 i33_0 i33_1 [32, 48, 53] [32, 48, 53, 69]) [10] [(53, 15)]
def i33_15 : CW := .blk 0 i33_14
def g33_2 : LS := [o1 9 (.load 32 0 15 true false 2),
 o1 10 (.call 55 [(false, .s 9)] [] [(4, 15, 53)])]
def i33_16 : CW := .seq (.fin (.reg g33_2) [9] []) i33_15
def g33_5 : LS := [o1 14 (fdS 9 2),
 o1 15 (ldS 32 9 14),
 o1 16 (.bin .lss (.s 15) (.k (.sc (.int .i64 0)))),
 o2 17 (mvS 16),
 o3 18 17 true (mvS 1),
 o3 19 17 true (ldS 48 0 5),
 o3 20 17 true (bnS .geq 18 19),
 o1 21 (.pick (.s 17) (.s 20) (.k (.sc (.bool false)))),
 o2 22 (mvS 21),
 o3 23 22 true (mvS 1),
 o3 24 22 true (.load 32 0 15 true false 2),
 o3 25 22 true (.call 53 [(false, .s 24)] [] []),
 o3 26 22 true (bnS .leq 23 25),
 o1 27 (.pick (.s 22) (.s 26) (.k (.sc (.bool false))))]
def g33_6 : LS := [o1 28 (mvS 1),
 o1 4 (mvS 28)]
def g33_7 : LS := [o1 29 (fdS 9 2),
 o1 30 (ldS 32 9 29),
 o1 4 (mvS 30)]
def i33_17 : CW := .seq (.seq (.fin (.reg g33_5) [5, 14, 15, 16, 17, 18, 19, 20, 21, 22, 23, 24, 25, 26] [(48, 1)]) (.fin (.cond (.s 27) (.seq (.fin (.reg g33_6) [1, 2, 27, 28] [(32, 15)]) (.ret)) (.skip)) [1, 27] [])) (.seq (.fin (.reg g33_7) [2, 29, 30] [(32, 15)]) (.ret))
def i33_18 : CW := .seq i33_16 i33_17
def g33_0 : LS := [o1 2 (.box 32 15 false (.s 0)),
 o1 4 (.mv false (.k (.sc (.int .i64 0))))]
def g33_1 : LS := [o1 7 (fdS 0 2),
 o1 8 (ldS 32 0 7),
 o1 5 (.alloc 48 [.sc (.int .i64 0)]),
 o0 (.store 48 0 1 false 5 (.s 8))]
def i33_19 : CW := .seq (.fin (.reg g33_0) [0, 4] []) (.seq (.fin (.reg g33_1) [7, 8] []) i33_18)
def fn33 : IFn2 RW := ⟨33, 2, 31, 80, [(32, 15), (48, 1), (50, 2), (53, 15), (69, 2)], [], [], [.slot 4], i33_19⟩
def g82_0 : LS := [o1 1 (.box 18 2 false (.s 0)),
 o1 2 (.mv false (.k (.sc (.bool false))))]
def g82_1 : LS := [o1 3 (fdS 0 1),
 o1 4 (ldS 18 0 3),
 o1 5 (.bin .geq (.s 4) (.k (.sc (.int .i64 0)))),
 o2 6 (mvS 5),
 o3 7 6 true (fdS 0 1),
 o3 8 6 true (ldS 18 0 7),
 o3 9 6 true (fdS 1 1),
 o3 10 6 true (ldS 18 1 9),
 o3 11 6 true (bnS .leq 8 10),
 o1 12 (.pick (.s 6) (.s 11) (.k (.sc (.bool false)))),
 o2 13 (mvS 12),
 o3 14 13 true (fdS 1 1),
 o3 15 13 true (ldS 18 1 14),
 o3 16 13 true (.bin .leq (.s 15) (.k (.sc (.int .i64 1125899906842624)))),
 o1 17 (.pick (.s 13) (.s 16) (.k (.sc (.bool false)))),
 o1 2 (mvS 17)]
def i82_0 : CW := .seq (.fin (.reg g82_0) [0, 2] []) (.seq (.fin (.reg g82_1) [1, 3, 4, 5, 6, 7, 8, 9, 10, 11, 12, 13, 14, 15, 16, 17] [(18, 2)]) (.ret))
def fn82 : IFn2 RW := ⟨82, 1, 18, 32, [(18, 2)], [], [], [.slot 2], i82_0⟩
def g78_2 : LS := [o1 8 (bnS .lss 7 6)]
def g78_3 : LS := [o1 9 (mvS 7),
 o1 10 (ixS 2 5 7),
 o1 11 (.loade 2 true 10),
 o1 4 (.alloc 38 [.sc (.int .i64 0), .sc (.int .i64 0)]),
 o1 3 (mvS 9),
 o0 (.store 38 0 2 false 4 (.s 11))]
def g78_4 : LS := [o1 12 (.load 38 0 2 true false 4),
 o1 13 (.call 82 [(false, .s 12)] [] []),
 o1 14 (ntS 13),
 o2 15 (mvS 14),
 o3 16 15 false (fdS 0 4),
 o3 17 15 false (ldS 38 0 16),
 o3 18 15 false (fdS 1 4),
 o3 19 15 false (ldS 38 1 18),
 o3 20 15 false (bnS .eql 17 19),
 o1 21 (.pick (.s 15) (.k (.sc (.bool true))) (.s 20)),
 o2 22 (mvS 21),
 o3 23 22 false (mvS 3),
 o3 24 22 false (.bin .gtr (.s 23) (.k (.sc (.int .i64 0)))),
  ⟨some 25, .mv false (.s 24), (some (22, false)), true⟩,
 o3 26 25 true (mvS 0),
 o3 27 25 true (mvS 3),
 o3 28 25 true (.bin .sub (.s 27) (.k (.sc (.int .i64 1)))),
 o3 29 25 true (ixS 2 26 28),
 o3 30 25 true (fdS 1 29),
 o3 31 25 true (.loade 1 false 30),
 o3 32 25 true (fdS 0 4),
 o3 33 25 true (ldS 38 0 32),
 o3 34 25 true (bnS .geq 31 33),
 o3 35 22 false (.pick (.s 25) (.s 34) (.k (.sc (.bool false)))),
 o1 36 (.pick (.s 22) (.k (.sc (.bool true))) (.s 35))]
def g78_5 : LS := [o1 2 (.mv false (.k (.sc (.int .i64 60))))]
def g78_6 : LS := [o1 37 (.bin .add (.s 7) (.k (.sc (.int .i64 1)))),
 o1 7 (mvS 37)]
def i78_0 : CW := .seq (.reg g78_2) (.seq (.fin (.cond (.s 8) (.skip) (.clr [0, 5, 6, 7, 8] [] (.exit 0))) [8] []) (.seq (.blk 1 (.seq (.fin (.reg g78_3) [9, 10, 11] []) (.seq (.fin (.reg g78_4) [3, 4, 12, 13, 14, 15, 16, 17, 18, 19, 20, 21, 22, 23, 24, 25, 26, 27, 28, 29, 30, 31, 32, 33, 34, 35] [(38, 2)]) (.fin (.cond (.s 36) (.seq (.fin (.reg g78_5) [0, 5, 6, 7, 36] []) (.ret)) (.skip)) [36] [])))) (.fin (.reg g78_6) [37] [])))
def i78_1 : CW := .loop i78_0
def i78_2 : CW := .blk 0 i78_1
def g78_1 : LS := [o1 5 (mvS 0),
 o1 6 (lnS 5),
 o1 7 (.mv false (.k (.sc (.int .i64 0))))]
def i78_3 : CW := .seq (.reg g78_1) i78_2
def g78_7 : LS := [o1 2 (.mv false (.k (.sc (.int .i64 0))))]
def i78_4 : CW := .seq (.reg g78_7) (.ret)
def i78_5 : CW := .seq i78_3 i78_4
def g78_0 : LS := [o1 2 (.mv false (.k (.sc (.int .i64 0))))]
def i78_6 : CW := .seq (.fin (.reg g78_0) [2] []) i78_5
def fn78 : IFn2 RW := ⟨78, 1, 38, 48, [(38, 2)], [], [], [.slot 2], i78_6⟩
def g79_0 : LS := [o1 2 (.box 6 1 false (.s 0)),
 o1 3 (.box 8 2 false (.s 1)),
 o1 4 (.mv false (.k (.sc .nilFunc)))]
def g79_1 : LS := [o1 5 (.mkclo 83 [.s 2, .s 3]),
 o1 4 (mvS 5)]
def i79_0 : CW := .seq (.fin (.reg g79_0) [0, 1, 4] []) (.seq (.fin (.reg g79_1) [2, 3, 5] []) (.ret))
def fn79 : IFn2 RW := ⟨79, 2, 6, 16, [(6, 1), (8, 2)], [], [(6, 1), (8, 2)], [.slot 4], i79_0⟩
def g61_6 : LS := [o1 7 (.alloc 71 [.sc (.int .i64 0), .sc (.int .i64 0)]),
 o0 (.store 71 0 2 false 7 (.s 23))]
def i61_0 : CW := .fin (.reg g61_6) [23] []
def g61_7 : LS := [o1 24 (ldS 69 0 6),
 o1 25 (fdS 0 7),
 o1 26 (ldS 71 0 25),
 o1 27 (bnS .lss 24 26)]
def g61_8 : LS := [o1 28 (.load 67 0 1 false true 5),
 o1 29 (ldS 69 0 6),
 o1 30 (fdS 0 7),
 o1 31 (ldS 71 0 30),
 o1 32 (.build [.sc (.int .i64 0), .sc (.int .i64 0)] [(0, 1, .s 29), (1, 1, .s 31)]),
 o1 33 (.bslice 78 1 [(0, 2, .s 32)]),
 o1 34 (.app 2 16 true (.s 28) (.s 33)),
 o0 (.store 67 0 1 true 5 (.s 34))]
def g61_9 : LS := [o1 35 (fdS 1 7),
 o1 36 (ldS 71 1 35),
 o0 (.store 69 0 1 false 6 (.s 36))]
def i61_1 : CW := .blk 1 (.seq (.seq (.fin (.reg g61_7) [24, 25, 26] []) (.fin (.cond (.s 27) (.fin (.reg g61_8) [27, 28, 29, 30, 31, 32, 33, 34] []) (.skip)) [27] [])) (.fin (.reg g61_9) [7, 35, 36] [(71, 2)]))
def i61_2 : CW := .seq i61_0 i61_1
def g61_1000 : LS := [o1 7 (ldS 74 0 1),
 o1 8 (lnS 7),
 o1 9 (.mv false (.k (.sc (.int .i64 0))))]
def g61_1001 : LS := [o1 10 (bnS .lss 9 8)]
def g61_1002 : LS := [o1 11 (ixS 2 7 9),
 o1 12 (.loade 2 true 11),
 o1 5 (.alloc 79 [.sc (.int .i64 0), .sc (.int .i64 0)]),
 o0 (.store 79 0 2 false 5 (.s 12))]
def g61_1003 : LS := [o1 13 (fdS 0 5),
 o1 14 (ldS 79 0 13),
 o1 15 (fdS 0 2),
 o1 16 (ldS 76 0 15),
 o1 17 (.mnmx true [.s 14, .s 16]),
 o1 18 (fdS 1 5),
 o1 19 (ldS 79 1 18),
 o1 20 (fdS 1 2),
 o1 21 (ldS 76 1 20),
 o1 22 (.mnmx false [.s 19, .s 21]),
 o1 23 (.build [.sc (.int .i64 0), .sc (.int .i64 0)] [(0, 1, .s 17), (1, 1, .s 22)]),
 o1 6 (.alloc 82 [.sc (.int .i64 0), .sc (.int .i64 0)]),
 o0 (.store 82 0 2 false 6 (.s 23))]
def g61_10041 : LS := [o1 24 (fdS 0 6),
 o1 25 (ldS 82 0 24),
 o1 26 (fdS 1 6),
 o1 27 (ldS 82 1 26),
 o1 28 (bnS .lss 25 27),
 o2 29 (mvS 28),
 o3 30 29 true (mvS 0),
 o3 31 29 true (.load 82 0 2 true false 6)]
def g61_10042 : LS := [o3 33 29 true (ntS 32),
 o1 34 (.pick (.s 29) (.s 33) (.k (.sc (.bool false))))]
def g61_1005 : LS := [o1 35 (.bin .add (.s 9) (.k (.sc (.int .i64 1)))),
 o1 9 (mvS 35)]
def i61_3 : CW := .seq (.fin (.reg g61_1000) [1] []) (.blk 0 (.loop (.seq (.reg g61_1001) (.seq (.fin (.cond (.s 10) (.skip) (.clr [0, 2, 7, 8, 9, 10] [] (.exit 0))) [10] []) (.seq (.blk 1 (.seq (.fin (.reg g61_1002) [11, 12] []) (.seq (.fin (.reg g61_1003) [5, 13, 14, 15, 16, 17, 18, 19, 20, 21, 22, 23] [(79, 2)]) (.seq (.fin (.yreg g61_10041 (.s 30) [.s 31] (some (29, true)) 32 g61_10042) [6, 24, 25, 26, 27, 28, 29, 30, 31, 32, 33] [(82, 2)]) (.fin (.cond (.s 34) (.clr [0, 2, 7, 8, 9, 34] [] (.ret)) (.skip)) [34] []))))) (.fin (.reg g61_1005) [35] []))))))
def i61_4 : CW := .fin (.yreg g61_10041 (.s 30) [.s 31] (some (29, true)) 32 g61_10042) [6, 24, 25, 26, 27, 28, 29, 30, 31, 32, 33] [(82, 2)]
def i61_5 : CW := .fin (.cond (.s 34) (.clr [0, 2, 7, 8, 9, 34] [] (.ret)) (.skip)) [34] []
def i61_6 : CW := .seq i61_4 i61_5
def i61_7 : CW := .seq (.fin (.reg g61_1002) [11, 12] []) (.seq (.fin (.reg g61_1003) [5, 13, 14, 15, 16, 17, 18, 19, 20, 21, 22, 23] [(79, 2)]) i61_6)
def i61_8 : CW := .blk 1 i61_7
def i61_9 : CW := .fin (.reg g61_1005) [35] []
def i61_10 : CW := .seq i61_8 i61_9
def i61_11 : CW := .seq (.reg g61_1001) (.seq (.fin (.cond (.s 10) (.skip) (.clr [0, 2, 7, 8, 9, 10] [] (.exit 0))) [10] []) i61_10)
def i61_12 : CW := .loop i61_11
def i61_13 : CW := .blk 0 i61_12
def i61_14 : CW := .fin (.rfn (.s 22) 83 4 36 [23] i61_3 i61_0 i61_1 [64, 67, 69, 74, 76] [64, 67, 69, 74, 76, 79, 82]) [22] [(74, 1), (76, 2)]
def i61_15 : CW := .blk 0 i61_14
def g61_5 : LS := [o1 20 (mvS 0),
 o1 21 (.load 64 0 2 true false 3),
 o1 22 (.call 79 [(false, .s 20), (false, .s 21)] [] [(6, 1, 74), (8, 2, 76)])]
def i61_16 : CW := .seq (.fin (.reg g61_5) [0, 20, 21] []) i61_15
def g61_10 : LS := [o1 37 (ldS 69 0 6),
 o1 38 (fdS 1 3),
 o1 39 (ldS 64 1 38),
 o1 40 (bnS .lss 37 39)]
def g61_11 : LS := [o1 41 (.load 67 0 1 false true 5),
 o1 42 (ldS 69 0 6),
 o1 43 (fdS 1 3),
 o1 44 (ldS 64 1 43),
 o1 45 (.build [.sc (.int .i64 0), .sc (.int .i64 0)] [(0, 1, .s 42), (1, 1, .s 44)]),
 o1 46 (.bslice 78 1 [(0, 2, .s 45)]),
 o1 47 (.app 2 16 true (.s 41) (.s 46)),
 o0 (.store 67 0 1 true 5 (.s 47))]
def g61_12 : LS := [o1 48 (ldS 67 0 5),
 o1 4 (mvS 48)]
def i61_17 : CW := .seq (.seq (.fin (.reg g61_10) [37, 38, 39] []) (.fin (.cond (.s 40) (.fin (.reg g61_11) [3, 6, 40, 41, 42, 43, 44, 45, 46, 47] [(64, 2), (69, 1)]) (.skip)) [3, 6, 40] [(64, 2), (69, 1)])) (.seq (.fin (.reg g61_12) [5, 48] [(67, 1)]) (.ret))
def i61_18 : CW := .seq i61_16 i61_17
def g61_0 : LS := [o1 3 (.box 64 2 false (.s 1)),
 o1 4 (.mv false (.k (.row false (.rSpan []))))]
def g61_1 : LS := [o1 8 (mvS 0),
 o1 9 (.call 78 [(false, .s 8)] [] []),
 o1 10 (.bin .neq (.s 9) (.k (.sc (.int .i64 0)))),
 o2 11 (mvS 10),
 o3 12 11 false (fdS 0 3),
 o3 13 11 false (ldS 64 0 12),
 o3 14 11 false (fdS 1 3),
 o3 15 11 false (ldS 64 1 14),
 o3 16 11 false (bnS .geq 13 15),
 o1 17 (.pick (.s 11) (.k (.sc (.bool true))) (.s 16))]
def g61_2 : LS := [o1 4 (.mv false (.k (.row false (.rSpan []))))]
def g61_3 : LS := [o1 5 (.alloc 67 [.row true (.rSpan [])])]
def g61_4 : LS := [o1 18 (fdS 0 3),
 o1 19 (ldS 64 0 18),
 o1 6 (.alloc 69 [.sc (.int .i64 0)]),
 o0 (.store 69 0 1 false 6 (.s 19))]
def i61_19 : CW := .seq (.fin (.reg g61_0) [1, 4] []) (.seq (.seq (.fin (.reg g61_1) [8, 9, 10, 11, 12, 13, 14, 15, 16] []) (.fin (.cond (.s 17) (.seq (.fin (.reg g61_2) [0, 3, 17] [(64, 2)]) (.ret)) (.skip)) [17] [])) (.seq (.reg g61_3) (.seq (.fin (.reg g61_4) [18, 19] []) i61_18)))
def fn61 : IFn2 RW := ⟨61, 2, 49, 96, [(64, 2), (67, 1), (69, 1), (71, 2), (74, 1), (76, 2), (79, 2), (82, 2)], [], [], [.slot 4], i61_19⟩
def g74_0 : LS := [o1 2 (.box 9 2 false (.s 0)),
 o1 4 (.mv false (.k (.sc (.int .i64 0))))]
def g74_1 : LS := [o1 5 (fdS 0 2),
 o1 6 (ldS 9 0 5),
 o1 7 (mvS 1),
 o1 8 (bnS .sub 6 7),
 o1 4 (mvS 8)]
def i74_0 : CW := .seq (.fin (.reg g74_0) [0, 4] []) (.seq (.fin (.reg g74_1) [1, 2, 5, 6, 7, 8] [(9, 2)]) (.ret))
def fn74 : IFn2 RW := ⟨74, 2, 9, 16, [(9, 2)], [], [], [.slot 4], i74_0⟩
def g1031_3 : LS := [o1 15 (mvS 9),
 o1 16 (mvS 10),
 o1 17 (bnS .lss 15 16)]
def g1031_4 : LS := [o1 18 (mvS 9),
 o1 19 (mvS 10),
 o1 20 (bnS .add 18 19),
 o1 21 (.conv .u64 (.s 20)),
 o1 22 (.bin .shr (.s 21) (.k (.sc (.int .u64 1)))),
 o1 23 (.conv .i64 (.s 22)),
 o1 11 (mvS 23)]
def g1031_5 : LS := [o1 24 (mvS 2),
 o1 25 (mvS 0),
 o1 26 (mvS 11),
 o1 27 (ixS 2 25 26),
 o1 28 (.loade 2 true 27),
 o1 29 (mvS 1),
 o1 30 (.callv (.s 24) 74 74 [(false, .s 28), (false, .s 29)] [] []),
 o1 31 (.bin .lss (.s 30) (.k (.sc (.int .i64 0))))]
def g1031_6 : LS := [o1 32 (mvS 11),
 o1 33 (.bin .add (.s 32) (.k (.sc (.int .i64 1)))),
 o1 9 (mvS 33)]
def g1031_7 : LS := [o1 34 (mvS 11),
 o1 10 (mvS 34)]
def i1031_0 : CW := .seq (.seq (.fin (.reg g1031_3) [15, 16] []) (.fin (.cond (.s 17) (.skip) (.clr [10, 17] [] (.exit 0))) [17] [])) (.blk 1 (.seq (.fin (.reg g1031_4) [18, 19, 20, 21, 22, 23] []) (.seq (.fin (.reg g1031_5) [24, 25, 26, 27, 28, 29, 30] []) (.cond (.s 31) (.fin (.reg g1031_6) [11, 31, 32, 33] []) (.fin (.reg g1031_7) [11, 31, 34] [])))))
def i1031_1 : CW := .loop i1031_0
def i1031_2 : CW := .blk 0 i1031_1
def g1031_8 : LS := [o1 35 (mvS 9),
 o1 36 (mvS 9),
 o1 37 (mvS 8),
 o1 38 (bnS .lss 36 37),
 o2 39 (mvS 38),
 o3 40 39 true (mvS 2),
 o3 41 39 true (mvS 0),
 o3 42 39 true (mvS 9),
 o3 43 39 true (ixS 2 41 42),
 o3 44 39 true (.loade 2 true 43),
 o3 45 39 true (mvS 1),
 o3 46 39 true (.callv (.s 40) 74 74 [(false, .s 44), (false, .s 45)] [] []),
 o3 47 39 true (.bin .eql (.s 46) (.k (.sc (.int .i64 0)))),
 o1 48 (.pick (.s 39) (.s 47) (.k (.sc (.bool false)))),
 o1 6 (mvS 35),
 o1 7 (mvS 48)]
def i1031_3 : CW := .seq (.fin (.reg g1031_8) [0, 1, 2, 8, 9, 35, 36, 37, 38, 39, 40, 41, 42, 43, 44, 45, 46, 47, 48] []) (.ret)
def i1031_4 : CW := .seq i1031_2 i1031_3
def g1031_0 : LS := [o1 6 (.mv false (.k (.sc (.int .i64 0)))),
 o1 7 (.mv false (.k (.sc (.bool false))))]
def g1031_1 : LS := [o1 12 (mvS 0),
 o1 13 (lnS 12),
 o1 8 (mvS 13)]
def g1031_2 : LS := [o1 14 (mvS 8),
 o1 9 (.mv false (.k (.sc (.int .i64 0)))),
 o1 10 (mvS 14)]
def i1031_5 : CW := .seq (.fin (.reg g1031_0) [6, 7] []) (.seq (.fin (.reg g1031_1) [12, 13] []) (.seq (.fin (.reg g1031_2) [14] []) i1031_4))
def fn1031 : IFn2 RW := ⟨73, 3, 49, 64, [], [], [], [.slot 6, .slot 7], i1031_5⟩
end
/-! slices.Clone[[]tideway/api.Piece,tideway/api.Piece] -/
section
variable (cp : CP) (n : Nat) (k : KX R)
def g1033_0 : List IStep := [⟨(some 2), .unew (.un none 2 0 (fun _ => [.sc (.int .i64 0), .row false 1 0 (fun _ => [.sc (.int .u8 0)])])), none, false⟩]
def g1033_1 : List IStep := [⟨(some 3), .mv false (.s 0), none, false⟩,
  ⟨(some 4), .nilq false (.s 3), none, false⟩]
def g1033_2 : List IStep := [⟨(some 2), .unew (.un none 2 0 (fun _ => [.sc (.int .i64 0), .row false 1 0 (fun _ => [.sc (.int .u8 0)])])), none, false⟩]
def g1033_3 : List IStep := [⟨(some 5), .bslice 2 0 [.sc (.int .i64 0), .row false 1 0 (fun _ => [.sc (.int .u8 0)])] [], none, false⟩,
  ⟨(some 6), .mv false (.s 0), none, false⟩,
  ⟨(some 7), .uapp 2 32 (.s 5) (.s 6), none, false⟩,
  ⟨(some 2), .mv true (.s 7), none, false⟩]
def fn1033 : IFn := ⟨76, 1, 8, 8, [], [], [], [.slot 2],
  .seq (.fin (.reg g1033_0) [2] []) (.seq (.seq (.fin (.reg g1033_1) [3] []) (.fin (.cond (.s 4) (.seq (.fin (.reg g1033_2) [0, 4] []) (.ret)) (.skip)) [4] [])) (.seq (.fin (.reg g1033_3) [0, 5, 6, 7] []) (.ret)))⟩

def fn75 : IFn := ⟨75, 3, 95, 3, [], [], [], [], .plug 2 32⟩
def g77_0 : LS := [o1 2 (.mv true (.k (.row true (.ruint8 []))))]
def g77_1 : LS := [o1 3 (mvS 0),
 o1 4 (mvS 0),
 o1 5 (lnS 4),
 o1 6 (mvS 0),
 o1 7 (lnS 6),
 o1 8 (.slice 1 (.s 3) none (some (.s 5)) (some (.s 7))),
 o1 2 (.mv true (.s 8))]
def i77_0 : CW := .seq (.fin (.reg g77_0) [2] []) (.seq (.fin (.reg g77_1) [0, 3, 4, 5, 6, 7, 8] []) (.ret))
def fn77 : IFn2 RW := ⟨77, 1, 9, 16, [], [], [], [.slot 2], i77_0⟩
def g60_5 : LS := [o1 32 (bnS .lss 31 30)]
def g60_6 : LS := [o1 33 (ixS 2 29 31),
 o1 34 (.loade 2 true 33),
 o1 9 (.alloc 75 [.sc (.int .i64 0), .row false (.ruint8 [])]),
 o0 (.store 75 0 2 false 9 (.s 34))]
def g60_7 : LS := [o1 35 (.ualias (.s 7)),
 o1 36 (lnS 35),
 o1 10 (mvS 36)]
def g60_8 : LS := [o1 37 (mvS 10),
 o1 38 (.bin .gtr (.s 37) (.k (.sc (.int .i64 0)))),
 o2 39 (mvS 38),
 o3 40 39 true (.ualias (.s 7)),
 o3 41 39 true (mvS 10),
 o3 42 39 true (.bin .sub (.s 41) (.k (.sc (.int .i64 1)))),
 o3 43 39 true (.uidx 2 (.s 40) (.s 42)),
 o3 44 39 true (.uload 7 2 true 43),
 o3 45 39 true (.call 71 [(false, .s 44)] [] []),
 o3 46 39 true (.fieldv 1 1 false (.s 45)),
 o3 47 39 true (fdS 0 9),
 o3 48 39 true (ldS 75 0 47),
 o3 49 39 true (bnS .eql 46 48),
 o1 50 (.pick (.s 39) (.s 49) (.k (.sc (.bool false))))]
def g60_9 : LS := [o1 51 (.ualias (.s 7)),
 o1 52 (mvS 10),
 o1 53 (.bin .sub (.s 52) (.k (.sc (.int .i64 1)))),
 o1 54 (.ualias (.s 7)),
 o1 55 (mvS 10),
 o1 56 (.bin .sub (.s 55) (.k (.sc (.int .i64 1)))),
 o1 57 (.uidx 2 (.s 54) (.s 56)),
 o1 58 (fdS 1 57),
 o1 59 (.uload 7 1 false 58),
 o1 60 (.call 77 [(false, .s 59)] [] []),
 o1 61 (fdS 1 9),
 o1 62 (ldS 75 1 61),
 o1 63 (.app 1 1 true (.s 60) (.s 62)),
 o1 64 (.uidx 2 (.s 51) (.s 53)),
 o1 65 (fdS 1 64),
 o0 (.ustore 7 1 65 (.s 63))]
def g60_10 : LS := [o1 66 (.mv true (.s 7)),
 o1 67 (.load 75 0 2 true false 9),
 o1 68 (.bslice 74 1 [(0, 2, .s 67)]),
 o1 69 (.uapp 2 32 (.s 66) (.s 68)),
 o1 7 (.mv true (.s 69))]
def g60_11 : LS := [o1 70 (.bin .add (.s 31) (.k (.sc (.int .i64 1)))),
 o1 31 (mvS 70)]
def i60_0 : CW := .seq (.reg g60_5) (.seq (.fin (.cond (.s 32) (.skip) (.clr [29, 30, 31, 32] [] (.exit 0))) [32] []) (.seq (.blk 1 (.seq (.fin (.reg g60_6) [33, 34] []) (.seq (.seq (.brw 7 (.fin (.reg g60_7) [35, 36] [])) (.seq (.brw 7 (.fin (.reg g60_8) [37, 38, 39, 40, 41, 42, 43, 44, 45, 46, 47, 48, 49] [])) (.fin (.cond (.s 50) (.seq (.brw 7 (.fin (.reg g60_9) [9, 10, 50, 51, 52, 53, 54, 55, 56, 57, 58, 59, 60, 61, 62, 63, 64, 65] [(75, 2)])) (.exit 1)) (.skip)) [10, 50] []))) (.fin (.reg g60_10) [9, 66, 67, 68, 69] [(75, 2)])))) (.fin (.reg g60_11) [70] [])))
def i60_1 : CW := .loop i60_0
def i60_2 : CW := .blk 0 i60_1
def g60_4 : LS := [o1 29 (mvS 0),
 o1 30 (lnS 29),
 o1 31 (.mv false (.k (.sc (.int .i64 0))))]
def i60_3 : CW := .seq (.fin (.reg g60_4) [0] []) i60_2
def g60_12 : LS := [o1 71 (.mv true (.s 7)),
 o1 4 (.ufrz (.s 71))]
def i60_4 : CW := .seq (.fin (.reg g60_12) [7, 71] []) (.ret)
def i60_5 : CW := .seq i60_3 i60_4
def g60_0 : LS := [o1 3 (.box 72 2 false (.s 1)),
 o1 4 (.mv true (.k (.row true (.rPiece []))))]
def g60_1 : LS := [o1 12 (mvS 0),
 o1 13 (fdS 0 3),
 o1 14 (ldS 72 0 13),
 o1 15 (.call 1031 [(false, .s 12), (false, .s 14), (false, .k (.clo 74 []))] [] []),
 o1 11 (mvS 15),
 o1 16 (.ext false 0 (.s 11)),
 o1 17 (.ext false 1 (.s 11)),
 o1 5 (mvS 16),
 o1 6 (mvS 17)]
def g60_2 : LS := [o1 18 (mvS 0),
 o1 19 (.call 1033 [(false, .s 18)] [] []),
 o1 20 (mvS 5),
 o1 21 (fdS 0 3),
 o1 22 (ldS 72 0 21),
 o1 23 (fdS 1 3),
 o1 24 (ldS 72 1 23),
 o1 25 (.call 52 [(false, .s 24)] [] []),
 o1 26 (.build [.sc (.int .i64 0), .row false (.ruint8 [])] [(0, 1, .s 22), (1, 1, .s 25)]),
 o1 27 (.bslice 74 1 [(0, 2, .s 26)]),
 o1 28 (.call 75 [(true, .s 19), (false, .s 20), (false, .s 27)] [] []),
 o1 0 (.ufrz (.s 28))]
def g60_3 : LS := [o1 7 (.unew (.un none (.rPiece [])))]
def i60_6 : CW := .seq (.fin (.reg g60_0) [1, 4] []) (.seq (.fin (.reg g60_1) [6, 11, 12, 13, 14, 15, 16, 17] []) (.seq (.fin (.reg g60_2) [3, 5, 18, 19, 20, 21, 22, 23, 24, 25, 26, 27, 28] [(72, 2)]) (.seq (.reg g60_3) (.seq (.skip) i60_5))))
def fn60 : IFn2 RW := ⟨60, 2, 72, 80, [(72, 2), (75, 2)], [], [], [.slot 4], i60_6⟩
def g1029_0 : LS := [o1 5 (.box 45 2 false (.s 0))]
def g1029_1 : LS := [o0 (.store 43 0 1 false 1 (.k (.sc (.bool true))))]
def g1029_2 : LS := [o1 6 (fdS 2 2),
 o1 7 (ldS 23 2 6),
 o1 8 (fdS 0 5),
 o1 9 (ldS 45 0 8),
 o1 10 (ldS 41 0 3),
 o1 11 (fdS 0 5),
 o1 12 (ldS 45 0 11),
 o1 13 (ldS 39 0 4),
 o1 14 (bnS .sub 12 13),
 o1 15 (fdS 1 5),
 o1 16 (ldS 45 1 15),
 o1 17 (ldS 39 0 4),
 o1 18 (bnS .sub 16 17),
 o1 19 (.slice 1 (.s 10) (some (.s 14)) (some (.s 18)) none),
 o1 20 (.build [.sc (.int .i64 0), .row false (.ruint8 [])] [(0, 1, .s 9), (1, 1, .s 19)]),
 o1 21 (.call 60 [(false, .s 7), (false, .s 20)] [] []),
 o1 22 (fdS 2 2),
 o0 (.store 23 2 1 true 22 (.s 21))]
def i1029_0 : CW := .seq (.fin (.reg g1029_0) [0] []) (.seq (.fin (.reg g1029_1) [1] []) (.fin (.reg g1029_2) [2, 3, 4, 5, 6, 7, 8, 9, 10, 11, 12, 13, 14, 15, 16, 17, 18, 19, 20, 21, 22] [(45, 2)]))
def fn1029 : IFn2 RW := ⟨59, 5, 23, 48, [(23, 15), (39, 1), (41, 1), (43, 1), (45, 2)], [(23, 15), (39, 1), (41, 1), (43, 1)], [], [], i1029_0⟩
def g34_6 : LS := [o1 10 (.alloc 150 [.sc (.int .i64 0), .sc (.int .i64 0)]),
 o0 (.store 150 0 2 false 10 (.s 32))]
def i34_0 : CW := .fin (.reg g34_6) [32] []
def g34_7 : LS := [o1 33 (.load 148 0 1 false true 9),
 o1 34 (.load 150 0 2 true false 10),
 o1 35 (.bslice 78 1 [(0, 2, .s 34)]),
 o1 36 (.app 2 16 true (.s 33) (.s 35)),
 o0 (.store 148 0 1 true 9 (.s 36))]
def i34_1 : CW := .blk 1 (.fin (.reg g34_7) [10, 33, 34, 35, 36] [(150, 2)])
def i34_2 : CW := .seq (.fin (.reg g34_6) [32] []) (.blk 1 (.fin (.reg g34_7) [10, 33, 34, 35, 36] [(150, 2)]))
def g34_1000 : LS := [o1 5 (fdS 2 1),
 o1 6 (ldS 158 2 5),
 o1 7 (lnS 6),
 o1 8 (.mv false (.k (.sc (.int .i64 0))))]
def g34_1001 : LS := [o1 9 (bnS .lss 8 7)]
def g34_1002 : LS := [o1 10 (ixS 2 6 8),
 o1 11 (.loade 2 true 10),
 o1 4 (.alloc 174 [.sc (.int .i64 0), .row false (.ruint8 [])]),
 o0 (.store 174 0 2 false 4 (.s 11))]
def g34_10031 : LS := [o1 12 (mvS 0),
 o1 13 (.load 174 0 2 true false 4),
 o1 14 (.call 71 [(false, .s 13)] [] [])]
def g34_10032 : LS := [o1 16 (ntS 15)]
def g34_1004 : LS := [o1 17 (.bin .add (.s 8) (.k (.sc (.int .i64 1)))),
 o1 8 (mvS 17)]
def i34_3 : CW := .seq (.fin (.reg g34_1000) [1, 5] []) (.blk 0 (.loop (.seq (.reg g34_1001) (.seq (.fin (.cond (.s 9) (.skip) (.clr [0, 6, 7, 8, 9] [] (.exit 0))) [9] []) (.seq (.blk 1 (.seq (.fin (.reg g34_1002) [10, 11] []) (.seq (.fin (.yreg g34_10031 (.s 12) [.s 14] none 15 g34_10032) [4, 12, 13, 14, 15] [(174, 2)]) (.fin (.cond (.s 16) (.clr [0, 6, 7, 8, 16] [] (.ret)) (.skip)) [16] [])))) (.fin (.reg g34_1004) [17] []))))))
def i34_4 : CW := .fin (.yreg g34_10031 (.s 12) [.s 14] none 15 g34_10032) [4, 12, 13, 14, 15] [(174, 2)]
def i34_5 : CW := .fin (.cond (.s 16) (.clr [0, 6, 7, 8, 16] [] (.ret)) (.skip)) [16] []
def i34_6 : CW := .seq i34_4 i34_5
def i34_7 : CW := .seq (.fin (.reg g34_1002) [10, 11] []) i34_6
def i34_8 : CW := .blk 1 i34_7
def i34_9 : CW := .fin (.reg g34_1004) [17] []
def i34_10 : CW := .seq i34_8 i34_9
def i34_11 : CW := .seq (.reg g34_1001) (.seq (.fin (.cond (.s 9) (.skip) (.clr [0, 6, 7, 8, 9] [] (.exit 0))) [9] []) i34_10)
def i34_12 : CW := .loop i34_11
def i34_13 : CW := .blk 0 i34_12
def i34_14 : CW := .fin (.rfn (.s 31) 70 7 18 [32] i34_3 i34_0 i34_1 [112, 128, 130, 132, 148, 158] [112, 128, 130, 132, 148, 158, 174]) [31] [(158, 15)]
def i34_15 : CW := .blk 0 i34_14
def g34_5 : LS := [o1 30 (.load 112 0 15 true false 3),
 o1 31 (.call 55 [(false, .s 30)] [] [(4, 15, 158)])]
def i34_16 : CW := .seq (.fin (.reg g34_5) [30] []) i34_15
def g34_13 : LS := [o1 52 (bnS .lss 51 50)]
def g34_14 : LS := [o1 53 (ixS 2 49 51),
 o1 54 (.loade 2 true 53),
 o1 15 (.alloc 155 [.sc (.int .i64 0), .sc (.int .i64 0)]),
 o0 (.store 155 0 2 false 15 (.s 54))]
def g34_15 : LS := [o1 55 (mvS 12),
 o1 56 (.load 155 0 2 true false 15),
 o1 57 (.callv (.s 55) 59 1029 [(false, .s 56)] [(112, 15, 23), (128, 1, 39), (130, 1, 41), (153, 1, 43)] [])]
def g34_16 : LS := [o1 58 (.bin .add (.s 51) (.k (.sc (.int .i64 1)))),
 o1 51 (mvS 58)]
def i34_17 : CW := .seq (.reg g34_13) (.seq (.fin (.cond (.s 52) (.skip) (.clr [12, 49, 50, 51, 52] [(128, 1), (130, 1)] (.exit 2))) [52] []) (.seq (.blk 3 (.seq (.fin (.reg g34_14) [53, 54] []) (.fin (.reg g34_15) [15, 55, 56, 57] [(155, 2)]))) (.fin (.reg g34_16) [58] [])))
def i34_18 : CW := .loop i34_17
def i34_19 : CW := .blk 2 i34_18
def g34_12 : LS := [o1 45 (ldS 148 0 9),
 o1 46 (mvS 13),
 o1 47 (mvS 8),
 o1 48 (.build [.sc (.int .i64 0), .sc (.int .i64 0)] [(0, 1, .s 46), (1, 1, .s 47)]),
 o1 49 (.call 61 [(false, .s 45), (false, .s 48)] [] []),
 o1 50 (lnS 49),
 o1 51 (.mv false (.k (.sc (.int .i64 0))))]
def i34_20 : CW := .seq (.fin (.reg g34_12) [8, 9, 13, 44, 45, 46, 47, 48] [(148, 1)]) i34_19
def i34_21 : CW := .skip
def i34_22 : CW := .fin (.cond (.s 44) i34_20 i34_21) [8, 9, 12, 13, 44] [(128, 1), (130, 1), (148, 1)]
def g34_10 : LS := [o1 38 (ldS 128 0 4),
 o1 39 (fdS 0 3),
 o1 40 (ldS 112 0 39),
 o1 41 (.mnmx true [.s 38, .s 40]),
 o1 13 (mvS 41)]
def g34_11 : LS := [o1 42 (mvS 13),
 o1 43 (mvS 8),
 o1 44 (bnS .lss 42 43)]
def i34_23 : CW := .seq (.fin (.reg g34_10) [4, 38, 39, 40, 41] []) (.seq (.fin (.reg g34_11) [42, 43] []) i34_22)
def g34_17 : LS := [o1 59 (fdS 2 3),
 o1 60 (ldS 112 2 59),
 o1 61 (lnS 60),
 o1 62 (.bin .gtr (.s 61) (.k (.sc (.int .i64 0)))),
 o2 63 (mvS 62),
 o3 64 63 true (fdS 2 3),
 o3 65 63 true (ldS 112 2 64),
 o3 66 63 true (.idx 2 (.s 65) (.k (.sc (.int .i64 0)))),
 o3 67 63 true (fdS 0 66),
 o3 68 63 true (.loade 1 false 67),
 o3 69 63 true (fdS 0 3),
 o3 70 63 true (ldS 112 0 69),
 o3 71 63 true (bnS .eql 68 70),
 o1 72 (.pick (.s 63) (.s 71) (.k (.sc (.bool false))))]
def g34_18 : LS := [o1 73 (fdS 1 3),
 o1 74 (.load 112 1 1 false true 73),
 o1 75 (fdS 2 3),
 o1 76 (ldS 112 2 75),
 o1 77 (.idx 2 (.s 76) (.k (.sc (.int .i64 0)))),
 o1 78 (fdS 1 77),
 o1 79 (.loade 1 false 78),
 o1 80 (.app 1 1 true (.s 74) (.s 79)),
 o1 81 (fdS 1 3),
 o0 (.store 112 1 1 true 81 (.s 80))]
def g34_19 : LS := [o1 82 (fdS 0 3),
 o1 83 (ldS 112 0 82),
 o1 84 (fdS 2 3),
 o1 85 (ldS 112 2 84),
 o1 86 (.idx 2 (.s 85) (.k (.sc (.int .i64 0)))),
 o1 87 (fdS 1 86),
 o1 88 (.loade 1 false 87),
 o1 89 (lnS 88),
 o1 90 (bnS .add 83 89),
 o1 91 (fdS 0 3),
 o0 (.store 112 0 1 false 91 (.s 90))]
def g34_20 : LS := [o1 92 (fdS 2 3),
 o1 93 (ldS 112 2 92),
 o1 94 (.slice 2 (.s 93) (some (.k (.sc (.int .i64 1)))) none none),
 o1 95 (fdS 2 3),
 o0 (.store 112 2 1 true 95 (.s 94))]
def i34_24 : CW := .seq (.seq (.fin (.reg g34_17) [59, 60, 61, 62, 63, 64, 65, 66, 67, 68, 69, 70, 71] []) (.fin (.cond (.s 72) i34_21 (.clr [72] [] (.exit 4))) [72] [])) (.blk 5 (.seq (.fin (.reg g34_18) [73, 74, 75, 76, 77, 78, 79, 80, 81] []) (.seq (.fin (.reg g34_19) [82, 83, 84, 85, 86, 87, 88, 89, 90, 91] []) (.fin (.reg g34_20) [92, 93, 94, 95] []))))
def i34_25 : CW := .loop i34_24
def i34_26 : CW := .wk [115] i34_25
def i34_27 : CW := .blk 4 i34_26
def g34_21 : LS := [o1 96 (.load 112 0 15 true true 3),
 o1 97 (ldS 153 0 11),
 o0 (.store 132 0 15 true 6 (.s 96)),
 o1 7 (mvS 97)]
def i34_28 : CW := .seq (.fin (.reg g34_21) [3, 11, 96, 97] [(112, 15), (153, 1)]) (.ret)
def i34_29 : CW := .seq i34_27 i34_28
def i34_30 : CW := .seq i34_23 i34_29
def g34_8 : LS := [o1 11 (.alloc 153 [.sc (.bool false)]),
 o0 (.store 153 0 1 false 11 (.k (.sc (.bool false))))]
def g34_9 : LS := [o1 37 (.mkclo 59 [.s 11, .s 3, .s 5, .s 4]),
 o1 12 (mvS 37)]
def i34_31 : CW := .seq (.reg g34_8) (.seq (.fin (.reg g34_9) [5, 37] []) i34_30)
def i34_32 : CW := .seq i34_16 i34_31
def g34_0 : LS := [o1 3 (.box 112 15 true (.s 0)),
 o1 4 (.box 128 1 false (.s 1)),
 o1 5 (.box 130 1 false (.s 2)),
 o1 6 (.alloc 132 [.sc (.int .i64 0), .row true (.ruint8 []), .row true (.rPiece []), .sc (.int .i64 0), .sc (.int .i64 0), .sc (.int .i64 0), .sc (.int .u32 0), .sc (.bool false), .sc (.bool false), .sc (.int .i64 0), .sc (.bool false), .row true (.rSpan []), .sc (.int .u32 0), .sc (.int .u32 0), .sc (.bool false)]),
 o1 7 (.mv false (.k (.sc (.bool false))))]
def g34_1 : LS := [o1 16 (ldS 128 0 4),
 o1 17 (ldS 130 0 5),
 o1 18 (lnS 17),
 o1 19 (bnS .add 16 18),
 o1 20 (.load 112 0 15 true false 3),
 o1 21 (.call 53 [(false, .s 20)] [] []),
 o1 22 (.mnmx false [.s 19, .s 21]),
 o1 8 (mvS 22)]
def g34_2 : LS := [o1 23 (fdS 9 3),
 o1 24 (ldS 112 9 23),
 o1 25 (.bin .geq (.s 24) (.k (.sc (.int .i64 0))))]
def g34_3 : LS := [o1 26 (mvS 8),
 o1 27 (fdS 9 3),
 o1 28 (ldS 112 9 27),
 o1 29 (.mnmx false [.s 26, .s 28]),
 o1 8 (mvS 29)]
def g34_4 : LS := [o1 9 (.alloc 148 [.row true (.rSpan [])])]
def i34_33 : CW := .seq (.fin (.reg g34_0) [0, 1, 2, 7] []) (.seq (.fin (.reg g34_1) [16, 17, 18, 19, 20, 21, 22] []) (.seq (.seq (.fin (.reg g34_2) [23, 24] []) (.fin (.cond (.s 25) (.fin (.reg g34_3) [25, 26, 27, 28, 29] []) i34_21) [25] [])) (.seq (.reg g34_4) i34_32)))
def fn34 : IFn2 RW := ⟨34, 3, 98, 192, [(112, 15), (128, 1), (130, 1), (132, 15), (148, 1), (150, 2), (153, 1), (155, 2), (158, 15), (174, 2)], [], [], [.cell 6 132 15 true, .slot 7], i34_33⟩
def g1038_0 : LS := [o1 2 (.box 19 2 false (.s 0)),
 o1 3 (.mv false (.k (.sc (.bool false))))]
def g1038_1 : LS := [o1 4 (fdS 0 2),
 o1 5 (ldS 19 0 4),
 o1 6 (fdS 0 1),
 o1 7 (ldS 16 0 6),
 o1 8 (bnS .leq 5 7),
 o2 9 (mvS 8),
 o3 10 9 true (fdS 1 1),
 o3 11 9 true (ldS 16 1 10),
 o3 12 9 true (fdS 1 2),
 o3 13 9 true (ldS 19 1 12),
 o3 14 9 true (bnS .leq 11 13),
 o1 15 (.pick (.s 9) (.s 14) (.k (.sc (.bool false)))),
 o1 3 (mvS 15)]
def i1038_0 : CW := .seq (.fin (.reg g1038_0) [0, 3] []) (.seq (.fin (.reg g1038_1) [1, 2, 4, 5, 6, 7, 8, 9, 10, 11, 12, 13, 14, 15] [(19, 2)]) (.ret))
def fn1038 : IFn2 RW := ⟨63, 2, 16, 32, [(16, 2), (19, 2)], [(16, 2)], [], [.slot 3], i1038_0⟩
def g1037_2 : LS := [o1 9 (bnS .lss 8 7)]
def g1037_3 : LS := [o1 10 (mvS 8),
 o1 5 (mvS 10)]
def g1037_4 : LS := [o1 11 (mvS 1),
 o1 12 (mvS 0),
 o1 13 (mvS 5),
 o1 14 (ixS 2 12 13),
 o1 15 (.loade 2 true 14),
 o1 16 (.callv (.s 11) 63 1038 [(false, .s 15)] [(19, 2, 16)] [])]
def g1037_5 : LS := [o1 17 (mvS 5),
 o1 4 (mvS 17)]
def g1037_6 : LS := [o1 18 (.bin .add (.s 8) (.k (.sc (.int .i64 1)))),
 o1 8 (mvS 18)]
def i1037_0 : CW := .seq (.reg g1037_2) (.seq (.fin (.cond (.s 9) (.skip) (.clr [0, 1, 7, 8, 9] [] (.exit 0))) [9] []) (.seq (.blk 1 (.seq (.fin (.reg g1037_3) [10] []) (.seq (.fin (.reg g1037_4) [11, 12, 13, 14, 15] []) (.fin (.cond (.s 16) (.seq (.fin (.reg g1037_5) [0, 1, 5, 7, 8, 16, 17] []) (.ret)) (.skip)) [5, 16] [])))) (.fin (.reg g1037_6) [18] [])))
def i1037_1 : CW := .loop i1037_0
def i1037_2 : CW := .blk 0 i1037_1
def g1037_1 : LS := [o1 6 (mvS 0),
 o1 7 (lnS 6),
 o1 8 (.mv false (.k (.sc (.int .i64 0))))]
def i1037_3 : CW := .seq (.fin (.reg g1037_1) [6] []) i1037_2
def g1037_7 : LS := [o1 4 (.mv false (.k (.sc (.int .i64 (-1)))))]
def i1037_4 : CW := .seq (.reg g1037_7) (.ret)
def i1037_5 : CW := .seq i1037_3 i1037_4
def g1037_0 : LS := [o1 4 (.mv false (.k (.sc (.int .i64 0))))]
def i1037_6 : CW := .seq (.fin (.reg g1037_0) [4] []) i1037_5
def fn1037 : IFn2 RW := ⟨62, 2, 19, 32, [(19, 2)], [(19, 2)], [], [.slot 4], i1037_6⟩
def g35_4 : LS := [o1 22 (mvS 9),
 o1 23 (.bin .geq (.s 22) (.k (.sc (.int .i64 0))))]
def g35_6 : LS := [o1 26 (mvS 7),
 o1 27 (mvS 9),
 o1 28 (ixS 2 26 27),
 o1 29 (fdS 0 28),
 o1 30 (.loade 1 false 29),
 o1 31 (mvS 1),
 o1 32 (mvS 2),
 o1 33 (lnS 32),
 o1 34 (bnS .add 31 33),
 o1 35 (bnS .lss 30 34),
 o2 36 (mvS 35),
 o3 37 36 true (mvS 7),
 o3 38 36 true (mvS 9),
 o3 39 36 true (ixS 2 37 38),
 o3 40 36 true (fdS 1 39),
 o3 41 36 true (.loade 1 false 40),
 o3 42 36 true (mvS 1),
 o3 43 36 true (bnS .gtr 41 42),
 o1 44 (.pick (.s 36) (.s 43) (.k (.sc (.bool false)))),
 o2 45 (mvS 44),
 o3 46 45 true (mvS 2),
 o3 47 45 true (lnS 46),
 o3 48 45 true (.bin .gtr (.s 47) (.k (.sc (.int .i64 0)))),
 o1 49 (.pick (.s 45) (.s 48) (.k (.sc (.bool false))))]
def g35_7 : LS := [o1 50 (mvS 7),
 o1 51 (mvS 9),
 o1 52 (ixS 2 50 51),
 o1 53 (.loade 2 true 52),
 o1 54 (.bslice 78 1 [(0, 2, .s 53)]),
 o1 55 (mvS 8),
 o1 56 (.app 2 16 true (.s 54) (.s 55)),
 o1 8 (mvS 56)]
def g35_5 : LS := [o1 24 (mvS 9),
 o1 25 (.bin .sub (.s 24) (.k (.sc (.int .i64 1)))),
 o1 9 (mvS 25)]
def i35_0 : CW := .seq (.seq (.fin (.reg g35_4) [22] []) (.fin (.cond (.s 23) (.skip) (.clr [1, 2, 9, 23] [] (.exit 0))) [23] [])) (.seq (.blk 1 (.seq (.fin (.reg g35_6) [26, 27, 28, 29, 30, 31, 32, 33, 34, 35, 36, 37, 38, 39, 40, 41, 42, 43, 44, 45, 46, 47, 48] []) (.fin (.cond (.s 49) (.seq (.fin (.reg g35_7) [1, 2, 9, 49, 50, 51, 52, 53, 54, 55, 56] []) (.exit 0)) (.skip)) [49] []))) (.fin (.reg g35_5) [24, 25] []))
def i35_1 : CW := .loop i35_0
def i35_2 : CW := .blk 0 i35_1
def g35_3 : LS := [o1 19 (mvS 7),
 o1 20 (lnS 19),
 o1 21 (.bin .sub (.s 20) (.k (.sc (.int .i64 1)))),
 o1 9 (mvS 21)]
def i35_3 : CW := .seq (.fin (.reg g35_3) [19, 20, 21] []) i35_2
def g35_10 : LS := [o1 60 (bnS .lss 59 58)]
def g35_11 : LS := [o1 61 (ixS 2 57 59),
 o1 62 (.loade 2 true 61),
 o1 12 (.alloc 102 [.sc (.int .i64 0), .sc (.int .i64 0)]),
 o0 (.store 102 0 2 false 12 (.s 62))]
def g35_12 : LS := [o1 63 (mvS 7),
 o1 64 (.mkclo 63 [.s 12]),
 o1 65 (.call 1037 [(false, .s 63), (false, .s 64)] [(102, 2, 19)] []),
 o1 13 (mvS 65)]
def g35_13 : LS := [o1 66 (mvS 13),
 o1 67 (.bin .geq (.s 66) (.k (.sc (.int .i64 0)))),
 o2 68 (mvS 67),
 o3 69 68 true (mvS 10),
 o3 70 68 true (mvS 7),
 o3 71 68 true (mvS 13),
 o3 72 68 true (ixS 2 70 71),
 o3 73 68 true (.loade 2 true 72),
 o3 74 68 true (.call 56 [(false, .s 69), (false, .s 73)] [] []),
 o3 75 68 true (ntS 74),
 o1 76 (.pick (.s 68) (.s 75) (.k (.sc (.bool false))))]
def g35_14 : LS := [o1 77 (.mv true (.s 10)),
 o1 78 (mvS 7),
 o1 79 (mvS 13),
 o1 80 (ixS 2 78 79),
 o1 81 (.loade 2 true 80),
 o1 82 (.bslice 78 1 [(0, 2, .s 81)]),
 o1 83 (.app 2 16 true (.s 77) (.s 82)),
 o1 10 (.mv true (.s 83))]
def g35_15 : LS := [o1 84 (.bin .add (.s 59) (.k (.sc (.int .i64 1)))),
 o1 59 (mvS 84)]
def i35_4 : CW := .seq (.reg g35_10) (.seq (.fin (.cond (.s 60) (.skip) (.clr [7, 57, 58, 59, 60] [] (.exit 2))) [60] []) (.seq (.blk 3 (.seq (.fin (.reg g35_11) [61, 62] []) (.seq (.fin (.reg g35_12) [12, 63, 64, 65] [(102, 2)]) (.seq (.fin (.reg g35_13) [66, 67, 68, 69, 70, 71, 72, 73, 74, 75] []) (.fin (.cond (.s 76) (.fin (.reg g35_14) [13, 76, 77, 78, 79, 80, 81, 82, 83] []) (.skip)) [13, 76] []))))) (.fin (.reg g35_15) [84] [])))
def i35_5 : CW := .loop i35_4
def i35_6 : CW := .blk 2 i35_5
def g35_9 : LS := [o1 57 (mvS 8),
 o1 58 (lnS 57),
 o1 59 (.mv false (.k (.sc (.int .i64 0))))]
def i35_7 : CW := .seq (.fin (.reg g35_9) [8] []) i35_6
def g35_16 : LS := [o1 85 (.mv true (.s 10)),
 o1 6 (.mv true (.s 85))]
def i35_8 : CW := .seq (.fin (.reg g35_16) [10, 85] []) (.ret)
def i35_9 : CW := .seq i35_7 i35_8
def g35_8 : LS := [o1 10 (.mv true (.k (.row true (.rSpan []))))]
def i35_10 : CW := .seq (.reg g35_8) i35_9
def i35_11 : CW := .seq i35_3 i35_10
def g35_0 : LS := [o1 3 (.box 86 15 false (.s 0)),
 o1 6 (.mv true (.k (.row true (.rSpan []))))]
def g35_1 : LS := [o1 14 (.load 86 0 15 true false 3),
 o1 15 (.call 55 [(false, .s 14)] [] [(4, 15, 105)]),
 o1 16 (.call 1010 [(false, .s 15)] [(105, 15, 5)] []),
 o1 7 (mvS 16)]
def g35_2 : LS := [o1 17 (fdS 11 3),
 o1 18 (ldS 86 11 17),
 o1 8 (mvS 18)]
def i35_12 : CW := .seq (.fin (.reg g35_0) [0, 6] []) (.seq (.fin (.reg g35_1) [14, 15, 16] [(105, 15)]) (.seq (.fin (.reg g35_2) [3, 17, 18] [(86, 15)]) i35_11))
def fn35 : IFn2 RW := ⟨35, 3, 86, 128, [(86, 15), (102, 2), (105, 15)], [], [], [.slot 6], i35_12⟩
def g12_21 : LS := [o1 133 (.load 140 0 15 true false 2),
 o1 134 (.mv true (.s 13)),
 o1 135 (.call 32 [(false, .s 133), (true, .s 134)] [] []),
 o1 132 (.mv true (.s 135)),
 o1 136 (.ext true 0 (.s 132)),
 o1 137 (.ext false 1 (.s 132)),
 o1 14 (.alloc 236 [.sc (.int .i64 0), .sc (.int .i64 0), .sc (.int .u32 0), .sc (.int .u32 0), .sc (.int .i64 0), .sc (.int .i64 0), .sc (.int .i64 0), .sc (.int .i64 0), .sc (.int .i64 0), .sc (.bool false), .sc (.bool false), .sc (.int .u32 0), .sc (.int .u32 0), .row false (.rBlock []), .row false (.ruint8 [])]),
 o0 (.store 140 0 15 true 2 (.s 136)),
 o0 (.store 236 0 15 false 14 (.s 137))]
def g12_22 : LS := [o1 138 (.load 140 0 15 true false 2),
 o1 139 (.load 236 0 15 true false 14),
 o0 (.store 172 0 15 false 4 (.s 138)),
 o0 (.store 188 0 15 false 5 (.s 139)),
 o1 6 (.mv false (.k (.sc (.bool true)))),
 o1 7 (.mv false (.k (.sc (.int .i64 0))))]
def i12_0 : CW := .seq (.fin (.reg g12_21) [13, 132, 133, 134, 135, 136, 137] []) (.seq (.fin (.reg g12_22) [2, 14, 138, 139] [(140, 15), (236, 15)]) (.wk [6, 7] (.ret)))
def g12_19 : LS := [o1 106 (fdS 8 2),
 o1 107 (ldS 140 8 106),
 o2 108 (mvS 107),
 o3 109 108 true (fdS 14 3),
 o3 110 108 true (ldS 156 14 109),
 o3 111 108 true (lnS 110),
 o3 112 108 true (.bin .gtr (.s 111) (.k (.sc (.int .i64 0)))),
 o1 113 (.pick (.s 108) (.s 112) (.k (.sc (.bool false)))),
 o2 114 (mvS 113),
 o3 115 114 true (mvS 9),
 o3 116 114 true (.bin .geq (.s 115) (.k (.sc (.int .i64 0)))),
 o1 117 (.pick (.s 114) (.s 116) (.k (.sc (.bool false)))),
 o2 118 (mvS 117),
 o3 119 118 true (mvS 12),
 o3 120 118 true (ntS 119),
 o1 121 (.pick (.s 118) (.s 120) (.k (.sc (.bool false))))]
def g12_20 : LS := [o1 122 (fdS 2 3),
 o1 123 (ldS 156 2 122),
 o1 124 (fdS 2 3),
 o1 125 (ldS 156 2 124),
 o1 126 (fdS 14 3),
 o1 127 (ldS 156 14 126),
 o1 128 (lnS 127),
 o1 129 (.call 36 [(false, .s 125), (false, .s 128)] [] []),
 o1 130 (.build [.sc (.int .u32 0), .sc (.int .u32 0)] [(0, 1, .s 123), (1, 1, .s 129)]),
 o1 131 (.bslice 62 1 [(0, 2, .s 130)]),
 o1 13 (.mv true (.s 131))]
def i12_1 : CW := .seq (.seq (.fin (.reg g12_19) [9, 12, 106, 107, 108, 109, 110, 111, 112, 113, 114, 115, 116, 117, 118, 119, 120] []) (.fin (.cond (.s 121) (.fin (.reg g12_20) [3, 121, 122, 123, 124, 125, 126, 127, 128, 129, 130, 131] [(156, 15)]) (.skip)) [3, 121] [(156, 15)])) i12_0
def g12_17 : LS := [o1 100 (.load 140 0 15 true false 2),
 o1 101 (mvS 9),
 o1 102 (fdS 14 3),
 o1 103 (ldS 156 14 102),
 o1 104 (.call 35 [(false, .s 100), (false, .s 101), (false, .s 103)] [] []),
 o1 105 (fdS 11 2),
 o0 (.store 140 11 1 true 105 (.s 104))]
def g12_18 : LS := [o1 13 (.mv true (.k (.row true (.rBlock []))))]
def i12_2 : CW := .seq (.fin (.reg g12_17) [100, 101, 102, 103, 104, 105] []) (.seq (.reg g12_18) i12_1)
def g12_13 : LS := [o1 74 (fdS 4 3),
 o1 75 (ldS 156 4 74),
 o1 76 (.bin .and (.s 75) (.k (.sc (.int .i64 1)))),
 o1 77 (.bin .gtr (.s 76) (.k (.sc (.int .i64 0))))]
def g12_14 : LS := [o1 78 (.load 140 0 15 true false 2),
 o1 79 (mvS 9),
 o1 80 (fdS 14 3),
 o1 81 (ldS 156 14 80),
 o1 82 (lnS 81),
 o1 83 (bnS .add 79 82),
 o1 84 (.call 33 [(false, .s 78), (false, .s 83)] [] []),
 o1 85 (fdS 9 2),
 o0 (.store 140 9 1 false 85 (.s 84))]
def g12_15 : LS := [o1 87 (.load 140 0 15 true true 2),
 o1 88 (mvS 9),
 o1 89 (fdS 14 3),
 o1 90 (ldS 156 14 89),
 o1 91 (.call 34 [(true, .s 87), (false, .s 88), (false, .s 90)] [] []),
 o1 86 (.mv true (.s 91)),
 o1 92 (.ext true 0 (.s 86)),
 o1 93 (.ext false 1 (.s 86)),
 o0 (.store 140 0 15 true 2 (.s 92)),
 o1 12 (mvS 93)]
def g12_16 : LS := [o1 94 (fdS 9 2),
 o1 95 (ldS 140 9 94),
 o1 96 (fdS 0 2),
 o1 97 (ldS 140 0 96),
 o1 98 (bnS .eql 95 97),
 o1 99 (fdS 10 2),
 o0 (.store 140 10 1 false 99 (.s 98))]
def i12_3 : CW := .seq (.seq (.fin (.reg g12_13) [74, 75, 76] []) (.fin (.cond (.s 77) (.fin (.reg g12_14) [77, 78, 79, 80, 81, 82, 83, 84, 85] []) (.skip)) [77] [])) (.seq (.fin (.reg g12_15) [86, 87, 88, 89, 90, 91, 92, 93] []) (.seq (.fin (.reg g12_16) [94, 95, 96, 97, 98, 99] []) i12_2))
def g12_11 : LS := [o1 62 (fdS 7 2),
 o1 63 (ldS 140 7 62),
 o2 64 (mvS 63),
 o3 65 64 true (mvS 9),
 o3 66 64 true (fdS 0 2),
 o3 67 64 true (ldS 140 0 66),
 o3 68 64 true (bnS .leq 65 67),
 o1 69 (.pick (.s 64) (.s 68) (.k (.sc (.bool false))))]
def g12_12 : LS := [o1 70 (fdS 11 3),
 o1 71 (ldS 156 11 70),
 o1 72 (fdS 6 2),
 o0 (.store 140 6 1 false 72 (.s 71)),
 o1 73 (fdS 14 2),
 o0 (.store 140 14 1 false 73 (.k (.sc (.bool true))))]
def i12_4 : CW := .seq (.seq (.fin (.reg g12_11) [62, 63, 64, 65, 66, 67, 68] []) (.fin (.cond (.s 69) (.fin (.reg g12_12) [69, 70, 71, 72, 73] []) (.skip)) [69] [])) i12_3
def g12_8 : LS := [o1 41 (fdS 7 2),
 o1 42 (ldS 140 7 41),
 o2 43 (mvS 42),
 o3 44 43 true (fdS 14 2),
 o3 45 43 true (ldS 140 14 44),
 o1 46 (.pick (.s 43) (.s 45) (.k (.sc (.bool false)))),
 o2 47 (mvS 46),
 o3 48 47 true (fdS 6 2),
 o3 49 47 true (ldS 140 6 48),
 o3 50 47 true (fdS 11 3),
 o3 51 47 true (ldS 156 11 50),
 o3 52 47 true (.call 31 [(false, .s 49), (false, .s 51)] [] []),
 o3 53 47 true (.bin .lss (.s 52) (.k (.sc (.int .i64 0)))),
 o1 54 (.pick (.s 47) (.s 53) (.k (.sc (.bool false))))]
def g12_9 : LS := [o1 56 (.load 140 0 15 true false 2),
 o1 57 (.call 32 [(false, .s 56), (true, .k (.row true (.rBlock [])))] [] []),
 o1 55 (mvS 57),
 o1 58 (.ext false 0 (.s 55)),
 o1 59 (.ext false 1 (.s 55)),
 o1 10 (.alloc 204 [.sc (.int .i64 0), .row false (.ruint8 []), .row false (.rPiece []), .sc (.int .i64 0), .sc (.int .i64 0), .sc (.int .i64 0), .sc (.int .u32 0), .sc (.bool false), .sc (.bool false), .sc (.int .i64 0), .sc (.bool false), .row false (.rSpan []), .sc (.int .u32 0), .sc (.int .u32 0), .sc (.bool false)]),
 o1 11 (.alloc 220 [.sc (.int .i64 0), .sc (.int .i64 0), .sc (.int .u32 0), .sc (.int .u32 0), .sc (.int .i64 0), .sc (.int .i64 0), .sc (.int .i64 0), .sc (.int .i64 0), .sc (.int .i64 0), .sc (.bool false), .sc (.bool false), .sc (.int .u32 0), .sc (.int .u32 0), .row false (.rBlock []), .row false (.ruint8 [])]),
 o0 (.store 204 0 15 false 10 (.s 58)),
 o0 (.store 220 0 15 false 11 (.s 59))]
def g12_10 : LS := [o1 60 (.load 204 0 15 true false 10),
 o1 61 (.load 220 0 15 true false 11),
 o0 (.store 172 0 15 false 4 (.s 60)),
 o0 (.store 188 0 15 false 5 (.s 61)),
 o1 6 (.mv false (.k (.sc (.bool true)))),
 o1 7 (.mv false (.k (.sc (.int .i64 0))))]
def i12_5 : CW := .seq (.seq (.fin (.reg g12_8) [41, 42, 43, 44, 45, 46, 47, 48, 49, 50, 51, 52, 53] []) (.fin (.cond (.s 54) (.seq (.fin (.reg g12_9) [2, 3, 9, 54, 55, 56, 57, 58, 59] [(140, 15), (156, 15)]) (.seq (.fin (.reg g12_10) [10, 11, 60, 61] [(204, 15), (220, 15)]) (.wk [6, 7] (.ret)))) (.skip)) [54] [])) i12_4
def g12_0 : LS := [o1 2 (.box 140 15 true (.s 0)),
 o1 3 (.box 156 15 false (.s 1)),
 o1 4 (.alloc 172 [.sc (.int .i64 0), .row false (.ruint8 []), .row false (.rPiece []), .sc (.int .i64 0), .sc (.int .i64 0), .sc (.int .i64 0), .sc (.int .u32 0), .sc (.bool false), .sc (.bool false), .sc (.int .i64 0), .sc (.bool false), .row false (.rSpan []), .sc (.int .u32 0), .sc (.int .u32 0), .sc (.bool false)]),
 o1 5 (.alloc 188 [.sc (.int .i64 0), .sc (.int .i64 0), .sc (.int .u32 0), .sc (.int .u32 0), .sc (.int .i64 0), .sc (.int .i64 0), .sc (.int .i64 0), .sc (.int .i64 0), .sc (.int .i64 0), .sc (.bool false), .sc (.bool false), .sc (.int .u32 0), .sc (.int .u32 0), .row false (.rBlock []), .row false (.ruint8 [])]),
 o1 6 (.mv false (.k (.sc (.bool false)))),
 o1 7 (.mv false (.k (.sc (.int .i64 0))))]
def g12_1 : LS := [o1 15 (.load 140 0 15 true false 2),
 o1 16 (.call 10 [(false, .s 15)] [] []),
 o1 8 (mvS 16)]
def g12_2 : LS := [o1 17 (mvS 8),
 o1 18 (.bin .neq (.s 17) (.k (.sc (.int .i64 0))))]
def g12_3 : LS := [o1 19 (.build [.sc (.int .i64 0), .row false (.ruint8 []), .row false (.rPiece []), .sc (.int .i64 0), .sc (.int .i64 0), .sc (.int .i64 0), .sc (.int .u32 0), .sc (.bool false), .sc (.bool false), .sc (.int .i64 0), .sc (.bool false), .row false (.rSpan []), .sc (.int .u32 0), .sc (.int .u32 0), .sc (.bool false)] []),
 o1 20 (.build [.sc (.int .i64 0), .sc (.int .i64 0), .sc (.int .u32 0), .sc (.int .u32 0), .sc (.int .i64 0), .sc (.int .i64 0), .sc (.int .i64 0), .sc (.int .i64 0), .sc (.int .i64 0), .sc (.bool false), .sc (.bool false), .sc (.int .u32 0), .sc (.int .u32 0), .row false (.rBlock []), .row false (.ruint8 [])] []),
 o1 21 (mvS 8),
 o0 (.store 172 0 15 false 4 (.s 19)),
 o0 (.store 188 0 15 false 5 (.s 20)),
 o1 6 (.mv false (.k (.sc (.bool false)))),
 o1 7 (mvS 21)]
def g12_4 : LS := [o1 22 (.load 140 0 15 true false 2),
 o1 23 (.call 29 [(false, .s 22)] [] []),
 o0 (.store 140 0 15 true 2 (.s 23))]
def g12_5 : LS := [o1 24 (fdS 7 2),
 o1 25 (ldS 140 7 24),
 o2 26 (mvS 25),
 o3 27 26 true (fdS 10 3),
 o3 28 26 true (ldS 156 10 27),
 o3 29 26 true (ntS 28),
 o1 30 (.pick (.s 26) (.s 29) (.k (.sc (.bool false))))]
def g12_6 : LS := [o1 31 (.load 140 0 15 true false 2),
 o1 32 (.build [.sc (.int .i64 0), .sc (.int .i64 0), .sc (.int .u32 0), .sc (.int .u32 0), .sc (.int .i64 0), .sc (.int .i64 0), .sc (.int .i64 0), .sc (.int .i64 0), .sc (.int .i64 0), .sc (.bool false), .sc (.bool false), .sc (.int .u32 0), .sc (.int .u32 0), .row false (.rBlock []), .row false (.ruint8 [])] []),
 o0 (.store 172 0 15 false 4 (.s 31)),
 o0 (.store 188 0 15 false 5 (.s 32)),
 o1 6 (.mv false (.k (.sc (.bool false)))),
 o1 7 (.mv false (.k (.sc (.int .i64 0))))]
def g12_7 : LS := [o1 33 (fdS 0 2),
 o1 34 (ldS 140 0 33),
 o1 35 (fdS 2 3),
 o1 36 (ldS 156 2 35),
 o1 37 (fdS 12 2),
 o1 38 (ldS 140 12 37),
 o1 39 (bnS .sub 36 38),
 o1 40 (.call 30 [(false, .s 34), (false, .s 39)] [] []),
 o1 9 (mvS 40)]
def i12_6 : CW := .seq (.fin (.reg g12_0) [0, 1, 6, 7] []) (.seq (.seq (.fin (.reg g12_1) [15, 16] []) (.seq (.fin (.reg g12_2) [17] []) (.fin (.cond (.s 18) (.seq (.fin (.reg g12_3) [2, 3, 8, 18, 19, 20, 21] [(140, 15), (156, 15)]) (.wk [6, 7] (.ret))) (.skip)) [8, 18] []))) (.seq (.fin (.reg g12_4) [22, 23] []) (.seq (.seq (.fin (.reg g12_5) [24, 25, 26, 27, 28, 29] []) (.fin (.cond (.s 30) (.seq (.fin (.reg g12_6) [2, 3, 30, 31, 32] [(140, 15), (156, 15)]) (.wk [6, 7] (.ret))) (.skip)) [30] [])) (.seq (.fin (.reg g12_7) [33, 34, 35, 36, 37, 38, 39, 40] []) i12_5))))
def fn12 : IFn2 RW := ⟨12, 2, 140, 256, [(140, 15), (156, 15), (172, 15), (188, 15), (204, 15), (220, 15), (236, 15)], [], [], [.cell 4 172 15 true, .cell 5 188 15 true, .slot 6, .slot 7], i12_6⟩
def g51_0 : LS := [o1 6 (.mv false (.k (.sc (.int .i64 0))))]
def g51_1 : LS := [o1 7 (mvS 1),
 o1 8 (mvS 0),
 o1 9 (mvS 2),
 o1 10 (.mnmx false [.s 8, .s 9]),
 o1 11 (.mnmx true [.s 7, .s 10]),
 o1 6 (mvS 11)]
def i51_0 : CW := .seq (.fin (.reg g51_0) [6] []) (.seq (.fin (.reg g51_1) [0, 1, 2, 7, 8, 9, 10, 11] []) (.ret))
def fn51 : IFn2 RW := ⟨51, 3, 12, 16, [], [], [], [.slot 6], i51_0⟩
def g20_8 : LS := [o1 36 (fdS 0 2),
 o1 37 (ldS 60 0 36),
 o1 38 (.load 60 0 15 true false 2),
 o1 39 (.call 49 [(false, .s 38)] [] []),
 o1 40 (bnS .add 37 39),
 o1 41 (fdS 5 2),
 o1 42 (ldS 60 5 41),
 o1 43 (bnS .sub 40 42),
 o1 44 (fdS 3 2),
 o1 45 (ldS 60 3 44),
 o1 46 (.bin .quo (.s 45) (.k (.sc (.int .i64 2)))),
 o1 47 (.mnmx true [.s 46, .k (.sc (.int .i64 1))]),
 o1 48 (bnS .lss 43 47)]
def g20_9 : LS := [o1 49 (.load 60 0 15 true false 2),
 o1 50 (mvS 10),
 o1 51 (.build [.sc (.int .i64 0), .sc (.int .i64 0), .sc (.int .u32 0), .sc (.int .u32 0), .sc (.int .i64 0), .sc (.int .i64 0), .sc (.int .i64 0), .sc (.int .i64 0), .sc (.int .i64 0), .sc (.bool false), .sc (.bool false), .sc (.int .u32 0), .sc (.int .u32 0), .row false (.rBlock []), .row false (.ruint8 [])] []),
 o0 (.store 76 0 15 false 4 (.s 49)),
 o1 5 (mvS 50),
 o0 (.store 92 0 15 false 6 (.s 51)),
 o1 7 (.mv false (.k (.sc (.bool false)))),
 o1 8 (.mv false (.k (.sc (.int .i64 0))))]
def g20_10 : LS := [o1 53 (.load 60 0 15 true false 2),
 o1 54 (.call 32 [(false, .s 53), (true, .k (.row true (.rBlock [])))] [] []),
 o1 52 (mvS 54),
 o1 55 (.ext false 0 (.s 52)),
 o1 56 (.ext false 1 (.s 52)),
 o1 11 (.alloc 108 [.sc (.int .i64 0), .sc (.int .i64 0), .sc (.int .u32 0), .sc (.int .u32 0), .sc (.int .i64 0), .sc (.int .i64 0), .sc (.int .i64 0), .sc (.int .i64 0), .sc (.int .i64 0), .sc (.bool false), .sc (.bool false), .sc (.int .u32 0), .sc (.int .u32 0), .row false (.rBlock []), .row false (.ruint8 [])]),
 o0 (.store 60 0 15 false 2 (.s 55)),
 o0 (.store 108 0 15 false 11 (.s 56))]
def g20_11 : LS := [o1 57 (.load 60 0 15 true false 2),
 o1 58 (mvS 10),
 o1 59 (.load 108 0 15 true false 11),
 o0 (.store 76 0 15 false 4 (.s 57)),
 o1 5 (mvS 58),
 o0 (.store 92 0 15 false 6 (.s 59)),
 o1 7 (.mv false (.k (.sc (.bool true)))),
 o1 8 (.mv false (.k (.sc (.int .i64 0))))]
def i20_0 : CW := .seq (.seq (.fin (.reg g20_8) [36, 37, 38, 39, 40, 41, 42, 43, 44, 45, 46, 47] []) (.fin (.cond (.s 48) (.seq (.fin (.reg g20_9) [2, 10, 48, 49, 50, 51] [(60, 15)]) (.wk [5, 7, 8] (.ret))) (.skip)) [48] [])) (.seq (.fin (.reg g20_10) [52, 53, 54, 55, 56] []) (.seq (.fin (.reg g20_11) [2, 10, 11, 57, 58, 59] [(60, 15), (108, 15)]) (.wk [5, 7, 8] (.ret))))
def g20_0 : LS := [o1 2 (.box 60 15 false (.s 0)),
 o1 4 (.alloc 76 [.sc (.int .i64 0), .row false (.ruint8 []), .row false (.rPiece []), .sc (.int .i64 0), .sc (.int .i64 0), .sc (.int .i64 0), .sc (.int .u32 0), .sc (.bool false), .sc (.bool false), .sc (.int .i64 0), .sc (.bool false), .row false (.rSpan []), .sc (.int .u32 0), .sc (.int .u32 0), .sc (.bool false)]),
 o1 5 (.mv false (.k (.row false (.ruint8 [])))),
 o1 6 (.alloc 92 [.sc (.int .i64 0), .sc (.int .i64 0), .sc (.int .u32 0), .sc (.int .u32 0), .sc (.int .i64 0), .sc (.int .i64 0), .sc (.int .i64 0), .sc (.int .i64 0), .sc (.int .i64 0), .sc (.bool false), .sc (.bool false), .sc (.int .u32 0), .sc (.int .u32 0), .row false (.rBlock []), .row false (.ruint8 [])]),
 o1 7 (.mv false (.k (.sc (.bool false)))),
 o1 8 (.mv false (.k (.sc (.int .i64 0))))]
def g20_1 : LS := [o1 12 (.load 60 0 15 true false 2),
 o1 13 (.call 10 [(false, .s 12)] [] []),
 o1 9 (mvS 13)]
def g20_2 : LS := [o1 14 (mvS 9),
 o1 15 (.bin .neq (.s 14) (.k (.sc (.int .i64 0))))]
def g20_3 : LS := [o1 16 (.build [.sc (.int .i64 0), .row false (.ruint8 []), .row false (.rPiece []), .sc (.int .i64 0), .sc (.int .i64 0), .sc (.int .i64 0), .sc (.int .u32 0), .sc (.bool false), .sc (.bool false), .sc (.int .i64 0), .sc (.bool false), .row false (.rSpan []), .sc (.int .u32 0), .sc (.int .u32 0), .sc (.bool false)] []),
 o1 17 (.build [.sc (.int .i64 0), .sc (.int .i64 0), .sc (.int .u32 0), .sc (.int .u32 0), .sc (.int .i64 0), .sc (.int .i64 0), .sc (.int .i64 0), .sc (.int .i64 0), .sc (.int .i64 0), .sc (.bool false), .sc (.bool false), .sc (.int .u32 0), .sc (.int .u32 0), .row false (.rBlock []), .row false (.ruint8 [])] []),
 o1 18 (mvS 9),
 o0 (.store 76 0 15 false 4 (.s 16)),
 o1 5 (.mv false (.k (.row false (.ruint8 [])))),
 o0 (.store 92 0 15 false 6 (.s 17)),
 o1 7 (.mv false (.k (.sc (.bool false)))),
 o1 8 (mvS 18)]
def g20_4 : LS := [o1 19 (.load 60 0 15 true false 2),
 o1 20 (.call 29 [(false, .s 19)] [] []),
 o0 (.store 60 0 15 false 2 (.s 20))]
def g20_5 : LS := [o1 21 (mvS 1),
 o1 22 (fdS 1 2),
 o1 23 (ldS 60 1 22),
 o1 24 (lnS 23),
 o1 25 (.call 51 [(false, .s 21), (false, .k (.sc (.int .i64 0))), (false, .s 24)] [] []),
 o1 1 (mvS 25)]
def g20_6 : LS := [o1 26 (fdS 1 2),
 o1 27 (ldS 60 1 26),
 o1 28 (mvS 1),
 o1 29 (.slice 1 (.s 27) none (some (.s 28)) none),
 o1 30 (.call 52 [(false, .s 29)] [] []),
 o1 10 (mvS 30)]
def g20_7 : LS := [o1 31 (fdS 1 2),
 o1 32 (ldS 60 1 31),
 o1 33 (mvS 1),
 o1 34 (.slice 1 (.s 32) (some (.s 33)) none none),
 o1 35 (fdS 1 2),
 o0 (.store 60 1 1 false 35 (.s 34))]
def i20_1 : CW := .seq (.fin (.reg g20_0) [0, 5, 7, 8] []) (.seq (.seq (.fin (.reg g20_1) [12, 13] []) (.seq (.fin (.reg g20_2) [14] []) (.fin (.cond (.s 15) (.seq (.fin (.reg g20_3) [1, 2, 9, 15, 16, 17, 18] [(60, 15)]) (.wk [5, 7, 8] (.ret))) (.skip)) [9, 15] []))) (.seq (.fin (.reg g20_4) [19, 20] []) (.seq (.fin (.reg g20_5) [21, 22, 23, 24, 25] []) (.seq (.fin (.reg g20_6) [26, 27, 28, 29, 30] []) (.seq (.fin (.reg g20_7) [1, 31, 32, 33, 34, 35] []) i20_0)))))
def fn20 : IFn2 RW := ⟨20, 2, 60, 128, [(60, 15), (76, 15), (92, 15), (108, 15)], [], [], [.cell 4 76 15 true, .slot 5, .cell 6 92 15 true, .slot 7, .slot 8], i20_1⟩
def g22_0 : LS := [o1 1 (.box 8 15 false (.s 0)),
 o1 2 (.mv false (.k (.sc (.int .i64 0))))]
def g22_1 : LS := [o1 3 (.load 8 0 15 true false 1),
 o1 4 (.call 10 [(false, .s 3)] [] []),
 o1 5 (.bin .neq (.s 4) (.k (.sc (.int .i64 0))))]
def g22_2 : LS := [o1 2 (.mv false (.k (.sc (.int .i64 0))))]
def g22_3 : LS := [o1 6 (.load 8 0 15 true false 1),
 o1 7 (.call 49 [(false, .s 6)] [] []),
 o1 2 (mvS 7)]
def i22_0 : CW := .seq (.fin (.reg g22_0) [0, 2] []) (.seq (.seq (.fin (.reg g22_1) [3, 4] []) (.fin (.cond (.s 5) (.seq (.fin (.reg g22_2) [1, 5] [(8, 15)]) (.ret)) (.skip)) [5] [])) (.seq (.fin (.reg g22_3) [1, 6, 7] [(8, 15)]) (.ret)))
def fn22 : IFn2 RW := ⟨22, 1, 8, 32, [(8, 15)], [], [], [.slot 2], i22_0⟩
def g11_5 : LS := [o1 51 (.call 17 [(false, .k (.sc (.int .i64 0))), (false, .k (.sc (.int .i64 0))), (false, .k (.sc (.int .u32 0))), (false, .k (.sc (.int .u32 0))), (false, .k (.sc (.bool false))), (false, .k (.sc (.bool false)))] [] []),
 o1 50 (mvS 51),
 o1 52 (.ext false 0 (.s 50)),
 o1 53 (.ext false 1 (.s 50)),
 o1 16 (.alloc 236 [.sc (.int .i64 0), .row false (.ruint8 []), .row false (.rPiece []), .sc (.int .i64 0), .sc (.int .i64 0), .sc (.int .i64 0), .sc (.int .u32 0), .sc (.bool false), .sc (.bool false), .sc (.int .i64 0), .sc (.bool false), .row false (.rSpan []), .sc (.int .u32 0), .sc (.int .u32 0), .sc (.bool false)]),
 o0 (.store 236 0 15 false 16 (.s 52)),
 o1 17 (mvS 53)]
def g11_6 : LS := [o1 54 (mvS 2),
 o1 55 (.bin .neq (.s 54) (.k (.sc (.int .i64 0)))),
 o2 56 (mvS 55),
 o3 57 56 false (mvS 6),
 o3 58 56 false (.bin .neq (.s 57) (.k (.sc (.int .i64 0)))),
 o1 59 (.pick (.s 56) (.k (.sc (.bool true))) (.s 58)),
 o2 60 (mvS 59),
 o3 61 60 false (mvS 10),
 o3 62 60 false (.bin .neq (.s 61) (.k (.sc (.int .i64 0)))),
 o1 63 (.pick (.s 60) (.k (.sc (.bool true))) (.s 62)),
 o2 64 (mvS 63),
 o3 65 64 false (mvS 15),
 o3 66 64 false (.bin .neq (.s 65) (.k (.sc (.int .i64 0)))),
 o1 67 (.pick (.s 64) (.k (.sc (.bool true))) (.s 66)),
 o2 68 (mvS 67),
 o3 69 68 false (mvS 5),
 o3 70 68 false (ntS 69),
 o1 71 (.pick (.s 68) (.k (.sc (.bool true))) (.s 70)),
 o2 72 (mvS 71),
 o3 73 72 false (mvS 9),
 o3 74 72 false (ntS 73),
 o1 75 (.pick (.s 72) (.k (.sc (.bool true))) (.s 74)),
 o2 76 (mvS 75),
 o3 77 76 false (mvS 17),
 o3 78 76 false (.bin .neq (.s 77) (.k (.sc (.int .i64 2)))),
 o1 79 (.pick (.s 76) (.k (.sc (.bool true))) (.s 78))]
def g11_7 : LS := [o1 0 (.mv false (.k (.sc (.bool false))))]
def g11_8 : LS := [o1 80 (fdS 3 4),
 o1 81 (ldS 156 3 80),
 o1 82 (.bin .eql (.s 81) (.k (.sc (.int .u32 100)))),
 o2 83 (mvS 82),
 o3 84 83 true (fdS 13 4),
 o3 85 83 true (ldS 156 13 84),
 o3 86 83 true (lnS 85),
 o3 87 83 true (.bin .eql (.s 86) (.k (.sc (.int .i64 1)))),
 o1 88 (.pick (.s 83) (.s 87) (.k (.sc (.bool false)))),
 o2 89 (mvS 88),
 o3 90 89 true (fdS 13 4),
 o3 91 89 true (ldS 156 13 90),
 o3 92 89 true (.idx 2 (.s 91) (.k (.sc (.int .i64 0)))),
 o3 93 89 true (.loade 2 true 92),
 o3 94 89 true (.build [.sc (.int .u32 0), .sc (.int .u32 0)] [(0, 1, .k (.sc (.int .u32 102))), (1, 1, .k (.sc (.int .u32 104)))]),
 o3 95 89 true (.eqs [true, true] false (.s 93) (.s 94)),
 o1 96 (.pick (.s 89) (.s 95) (.k (.sc (.bool false)))),
 o2 97 (mvS 96),
 o3 98 97 true (fdS 3 8),
 o3 99 97 true (ldS 188 3 98),
 o3 100 97 true (.bin .eql (.s 99) (.k (.sc (.int .u32 104)))),
 o1 101 (.pick (.s 97) (.s 100) (.k (.sc (.bool false)))),
 o2 102 (mvS 101),
 o3 103 102 true (fdS 1 7),
 o3 104 102 true (ldS 172 1 103),
 o3 105 102 true (.cstr (.s 104)),
 o3 106 102 true (.eqt false (.s 105) (.k (.sc (.string str_abcd)))),
 o1 107 (.pick (.s 102) (.s 106) (.k (.sc (.bool false)))),
 o2 108 (mvS 107),
 o3 109 108 true (mvS 12),
 o3 110 108 true (.cstr (.s 109)),
 o3 111 108 true (.eqt false (.s 110) (.k (.sc (.string str_abc)))),
 o1 112 (.pick (.s 108) (.s 111) (.k (.sc (.bool false)))),
 o2 113 (mvS 112),
 o3 114 113 true (fdS 1 11),
 o3 115 113 true (ldS 204 1 114),
 o3 116 113 true (.cstr (.s 115)),
 o3 117 113 true (.eqt false (.s 116) (.k (.sc (.string str_d)))),
 o1 118 (.pick (.s 113) (.s 117) (.k (.sc (.bool false)))),
 o2 119 (mvS 118),
 o3 120 119 true (.load 124 0 15 true false 1),
 o3 121 119 true (.call 22 [(false, .s 120)] [] []),
 o3 122 119 true (.bin .eql (.s 121) (.k (.sc (.int .i64 10)))),
 o1 123 (.pick (.s 119) (.s 122) (.k (.sc (.bool false)))),
 o1 0 (mvS 123)]
def i11_0 : CW := .seq (.fin (.reg g11_5) [16, 50, 51, 52, 53] [(236, 15)]) (.seq (.seq (.fin (.reg g11_6) [2, 5, 6, 9, 10, 15, 17, 54, 55, 56, 57, 58, 59, 60, 61, 62, 63, 64, 65, 66, 67, 68, 69, 70, 71, 72, 73, 74, 75, 76, 77, 78] []) (.fin (.cond (.s 79) (.seq (.fin (.reg g11_7) [1, 4, 7, 8, 11, 12, 79] [(124, 15), (156, 15), (172, 15), (188, 15), (204, 15)]) (.ret)) (.skip)) [79] [])) (.seq (.fin (.reg g11_8) [1, 4, 7, 8, 11, 12, 80, 81, 82, 83, 84, 85, 86, 87, 88, 89, 90, 91, 92, 93, 94, 95, 96, 97, 98, 99, 100, 101, 102, 103, 104, 105, 106, 107, 108, 109, 110, 111, 112, 113, 114, 115, 116, 117, 118, 119, 120, 121, 122, 123] [(124, 15), (156, 15), (172, 15), (188, 15), (204, 15)]) (.ret)))
def g11_0 : LS := [o1 0 (.mv false (.k (.sc (.bool false))))]
def g11_1 : LS := [o1 19 (.call 17 [(false, .k (.sc (.int .i64 10))), (false, .k (.sc (.int .i64 0))), (false, .k (.sc (.int .u32 100))), (false, .k (.sc (.int .u32 7))), (false, .k (.sc (.bool false))), (false, .k (.sc (.bool true)))] [] []),
 o1 18 (mvS 19),
 o1 20 (.ext false 0 (.s 18)),
 o1 21 (.ext false 1 (.s 18)),
 o1 1 (.alloc 124 [.sc (.int .i64 0), .row false (.ruint8 []), .row false (.rPiece []), .sc (.int .i64 0), .sc (.int .i64 0), .sc (.int .i64 0), .sc (.int .u32 0), .sc (.bool false), .sc (.bool false), .sc (.int .i64 0), .sc (.bool false), .row false (.rSpan []), .sc (.int .u32 0), .sc (.int .u32 0), .sc (.bool false)]),
 o0 (.store 124 0 15 false 1 (.s 20)),
 o1 2 (mvS 21)]
def g11_2 : LS := [o1 23 (.load 124 0 15 true false 1),
 o1 24 (.ubs 5 2 [(0, 1, .k (.sc (.int .u8 99))), (1, 1, .k (.sc (.int .u8 100)))]),
 o1 25 (.uconv (.s 24)),
 o1 26 (.build [.sc (.int .i64 0), .sc (.int .i64 0), .sc (.int .u32 0), .sc (.int .u32 0), .sc (.int .i64 0), .sc (.int .i64 0), .sc (.int .i64 0), .sc (.int .i64 0), .sc (.int .i64 0), .sc (.bool false), .sc (.bool false), .sc (.int .u32 0), .sc (.int .u32 0), .row false (.rBlock []), .row false (.ruint8 [])] [(2, 1, .k (.sc (.int .u32 102))), (14, 1, .s 25)]),
 o1 27 (.call 12 [(false, .s 23), (false, .s 26)] [] []),
 o1 22 (mvS 27),
 o1 28 (.ext false 0 (.s 22)),
 o1 29 (.ext false 1 (.s 22)),
 o1 30 (.ext false 2 (.s 22)),
 o1 31 (.ext false 3 (.s 22)),
 o1 3 (.alloc 140 [.sc (.int .i64 0), .row false (.ruint8 []), .row false (.rPiece []), .sc (.int .i64 0), .sc (.int .i64 0), .sc (.int .i64 0), .sc (.int .u32 0), .sc (.bool false), .sc (.bool false), .sc (.int .i64 0), .sc (.bool false), .row false (.rSpan []), .sc (.int .u32 0), .sc (.int .u32 0), .sc (.bool false)]),
 o1 4 (.alloc 156 [.sc (.int .i64 0), .sc (.int .i64 0), .sc (.int .u32 0), .sc (.int .u32 0), .sc (.int .i64 0), .sc (.int .i64 0), .sc (.int .i64 0), .sc (.int .i64 0), .sc (.int .i64 0), .sc (.bool false), .sc (.bool false), .sc (.int .u32 0), .sc (.int .u32 0), .row false (.rBlock []), .row false (.ruint8 [])]),
 o0 (.store 140 0 15 false 3 (.s 28)),
 o0 (.store 156 0 15 false 4 (.s 29)),
 o1 5 (mvS 30),
 o1 6 (mvS 31)]
def g11_3 : LS := [o1 33 (.load 140 0 15 true false 3),
 o1 34 (.ubs 5 2 [(0, 1, .k (.sc (.int .u8 97))), (1, 1, .k (.sc (.int .u8 98)))]),
 o1 35 (.uconv (.s 34)),
 o1 36 (.build [.sc (.int .i64 0), .sc (.int .i64 0), .sc (.int .u32 0), .sc (.int .u32 0), .sc (.int .i64 0), .sc (.int .i64 0), .sc (.int .i64 0), .sc (.int .i64 0), .sc (.int .i64 0), .sc (.bool false), .sc (.bool false), .sc (.int .u32 0), .sc (.int .u32 0), .row false (.rBlock []), .row false (.ruint8 [])] [(2, 1, .k (.sc (.int .u32 100))), (14, 1, .s 35)]),
 o1 37 (.call 12 [(false, .s 33), (false, .s 36)] [] []),
 o1 32 (mvS 37),
 o1 38 (.ext false 0 (.s 32)),
 o1 39 (.ext false 1 (.s 32)),
 o1 40 (.ext false 2 (.s 32)),
 o1 41 (.ext false 3 (.s 32)),
 o1 7 (.alloc 172 [.sc (.int .i64 0), .row false (.ruint8 []), .row false (.rPiece []), .sc (.int .i64 0), .sc (.int .i64 0), .sc (.int .i64 0), .sc (.int .u32 0), .sc (.bool false), .sc (.bool false), .sc (.int .i64 0), .sc (.bool false), .row false (.rSpan []), .sc (.int .u32 0), .sc (.int .u32 0), .sc (.bool false)]),
 o1 8 (.alloc 188 [.sc (.int .i64 0), .sc (.int .i64 0), .sc (.int .u32 0), .sc (.int .u32 0), .sc (.int .i64 0), .sc (.int .i64 0), .sc (.int .i64 0), .sc (.int .i64 0), .sc (.int .i64 0), .sc (.bool false), .sc (.bool false), .sc (.int .u32 0), .sc (.int .u32 0), .row false (.rBlock []), .row false (.ruint8 [])]),
 o0 (.store 172 0 15 false 7 (.s 38)),
 o0 (.store 188 0 15 false 8 (.s 39)),
 o1 9 (mvS 40),
 o1 10 (mvS 41)]
def g11_4 : LS := [o1 43 (.load 172 0 15 true false 7),
 o1 44 (.call 20 [(false, .s 43), (false, .k (.sc (.int .i64 3)))] [] []),
 o1 42 (mvS 44),
 o1 45 (.ext false 0 (.s 42)),
 o1 46 (.ext false 1 (.s 42)),
 o1 47 (.ext false 2 (.s 42)),
 o1 48 (.ext false 3 (.s 42)),
 o1 49 (.ext false 4 (.s 42)),
 o1 11 (.alloc 204 [.sc (.int .i64 0), .row false (.ruint8 []), .row false (.rPiece []), .sc (.int .i64 0), .sc (.int .i64 0), .sc (.int .i64 0), .sc (.int .u32 0), .sc (.bool false), .sc (.bool false), .sc (.int .i64 0), .sc (.bool false), .row false (.rSpan []), .sc (.int .u32 0), .sc (.int .u32 0), .sc (.bool false)]),
 o1 13 (.alloc 220 [.sc (.int .i64 0), .sc (.int .i64 0), .sc (.int .u32 0), .sc (.int .u32 0), .sc (.int .i64 0), .sc (.int .i64 0), .sc (.int .i64 0), .sc (.int .i64 0), .sc (.int .i64 0), .sc (.bool false), .sc (.bool false), .sc (.int .u32 0), .sc (.int .u32 0), .row false (.rBlock []), .row false (.ruint8 [])]),
 o0 (.store 204 0 15 false 11 (.s 45)),
 o1 12 (mvS 46),
 o0 (.store 220 0 15 false 13 (.s 47)),
 o1 14 (mvS 48),
 o1 15 (mvS 49)]
def i11_1 : CW := .seq (.fin (.reg g11_0) [0] []) (.seq (.fin (.reg g11_1) [18, 19, 20, 21] []) (.seq (.fin (.reg g11_2) [22, 23, 24, 25, 26, 27, 28, 29, 30, 31] []) (.seq (.fin (.reg g11_3) [3, 32, 33, 34, 35, 36, 37, 38, 39, 40, 41] [(140, 15)]) (.seq (.fin (.reg g11_4) [13, 14, 42, 43, 44, 45, 46, 47, 48, 49] [(220, 15)]) i11_0))))
def fn11 : IFn2 RW := ⟨11, 0, 124, 256, [(124, 15), (140, 15), (156, 15), (172, 15), (188, 15), (204, 15), (220, 15), (236, 15)], [], [], [.slot 0], i11_1⟩
def g19_0 : LS := [o1 10 (.alloc 45 [.sc (.int .i64 0), .sc (.int .i64 0), .sc (.int .u32 0), .sc (.int .u32 0), .sc (.int .i64 0), .sc (.int .i64 0), .sc (.int .i64 0), .sc (.int .i64 0), .sc (.int .i64 0), .sc (.bool false), .sc (.bool false), .sc (.int .u32 0), .sc (.int .u32 0), .row false (.rBlock []), .row false (.ruint8 [])])]
def g19_1 : LS := [o1 13 (mvS 2),
 o1 14 (.bin .lss (.s 13) (.k (.sc (.int .i64 0)))),
 o2 15 (mvS 14),
 o3 16 15 false (mvS 2),
 o3 17 15 false (mvS 1),
 o3 18 15 false (lnS 17),
 o3 19 15 false (bnS .gtr 16 18),
 o1 20 (.pick (.s 15) (.k (.sc (.bool true))) (.s 19))]
def g19_2 : LS := [o1 2 (.mv false (.k (.sc (.int .i64 0))))]
def g19_3 : LS := [o1 21 (mvS 1),
 o1 22 (lnS 21),
 o1 23 (mvS 2),
 o1 24 (mvS 3),
 o1 25 (bnS .add 23 24),
 o1 26 (.mnmx false [.s 22, .s 25]),
 o1 11 (mvS 26)]
def g19_4 : LS := [o1 27 (mvS 0),
 o1 28 (mvS 2),
 o1 29 (.conv .u32 (.s 28)),
 o1 30 (bnS .add 27 29),
 o1 31 (mvS 1),
 o1 32 (mvS 2),
 o1 33 (mvS 11),
 o1 34 (.slice 1 (.s 31) (some (.s 32)) (some (.s 33)) none),
 o1 35 (.build [.sc (.int .i64 0), .sc (.int .i64 0), .sc (.int .u32 0), .sc (.int .u32 0), .sc (.int .i64 0), .sc (.int .i64 0), .sc (.int .i64 0), .sc (.int .i64 0), .sc (.int .i64 0), .sc (.bool false), .sc (.bool false), .sc (.int .u32 0), .sc (.int .u32 0), .row false (.rBlock []), .row false (.ruint8 [])] [(2, 1, .s 30), (14, 1, .s 34), (10, 1, .k (.sc (.bool true))), (7, 1, .k (.sc (.int .i64 (-1)))), (8, 1, .k (.sc (.int .i64 (-1))))]),
 o1 12 (.alloc 61 [.sc (.int .i64 0), .sc (.int .i64 0), .sc (.int .u32 0), .sc (.int .u32 0), .sc (.int .i64 0), .sc (.int .i64 0), .sc (.int .i64 0), .sc (.int .i64 0), .sc (.int .i64 0), .sc (.bool false), .sc (.bool false), .sc (.int .u32 0), .sc (.int .u32 0), .row false (.rBlock []), .row false (.ruint8 [])]),
 o0 (.store 61 0 15 false 12 (.s 35))]
def g19_5 : LS := [o1 36 (mvS 4),
 o2 37 (mvS 36),
 o3 38 37 true (mvS 11),
 o3 39 37 true (mvS 1),
 o3 40 37 true (lnS 39),
 o3 41 37 true (bnS .eql 38 40),
 o1 42 (.pick (.s 37) (.s 41) (.k (.sc (.bool false))))]
def g19_6 : LS := [o1 43 (fdS 4 12),
 o0 (.store 61 4 1 false 43 (.k (.sc (.int .i64 1))))]
def g19_7 : LS := [o1 44 (.load 61 0 15 true false 12),
 o0 (.store 45 0 15 false 10 (.s 44))]
def i19_0 : CW := .seq (.reg g19_0) (.seq (.seq (.fin (.reg g19_1) [13, 14, 15, 16, 17, 18, 19] []) (.fin (.cond (.s 20) (.fin (.reg g19_2) [20] []) (.skip)) [20] [])) (.seq (.fin (.reg g19_3) [3, 21, 22, 23, 24, 25, 26] []) (.seq (.fin (.reg g19_4) [0, 2, 27, 28, 29, 30, 31, 32, 33, 34, 35] []) (.seq (.seq (.fin (.reg g19_5) [1, 4, 11, 36, 37, 38, 39, 40, 41] []) (.fin (.cond (.s 42) (.fin (.reg g19_6) [42, 43] []) (.skip)) [42] [])) (.seq (.fin (.reg g19_7) [12, 44] [(61, 15)]) (.ret))))))
def fn19 : IFn2 RW := ⟨19, 5, 45, 80, [(45, 15), (61, 15)], [], [], [.cell 10 45 15 true], i19_0⟩
def g21_0 : LS := [o1 4 (.mv false (.k (.sc (.bool false))))]
def g21_1 : LS := [o1 5 (mvS 0),
 o1 6 (.cstr (.s 5)),
 o1 7 (mvS 1),
 o1 8 (.cstr (.s 7)),
 o1 9 (.eqt false (.s 6) (.s 8)),
 o1 4 (mvS 9)]
def i21_0 : CW := .seq (.fin (.reg g21_0) [4] []) (.seq (.fin (.reg g21_1) [0, 1, 5, 6, 7, 8, 9] []) (.ret))
def fn21 : IFn2 RW := ⟨21, 2, 10, 16, [], [], [], [.slot 4], i21_0⟩
def g6_22 : LS := [o1 136 (mvS 11),
 o1 137 (lnS 136),
 o1 138 (mvS 0),
 o1 139 (lnS 138),
 o1 140 (bnS .gtr 137 139),
 o2 141 (mvS 140),
 o3 142 141 false (mvS 11),
 o3 143 141 false (mvS 0),
 o3 144 141 false (mvS 11),
 o3 145 141 false (lnS 144),
 o3 146 141 false (.slice 1 (.s 143) none (some (.s 145)) none),
 o3 147 141 false (.call 21 [(false, .s 142), (false, .s 146)] [] []),
 o3 148 141 false (ntS 147),
 o1 149 (.pick (.s 141) (.k (.sc (.bool true))) (.s 148)),
 o2 150 (mvS 149),
 o3 151 150 false (mvS 11),
 o3 152 150 false (lnS 151),
 o3 153 150 false (fdS 1 9),
 o3 154 150 false (ldS 203 1 153),
 o3 155 150 false (lnS 154),
 o3 156 150 false (bnS .add 152 155),
 o3 157 150 false (fdS 0 9),
 o3 158 150 false (ldS 203 0 157),
 o3 159 150 false (bnS .neq 156 158),
 o1 160 (.pick (.s 150) (.k (.sc (.bool true))) (.s 159))]
def g6_23 : LS := [o1 8 (.mv false (.k (.sc (.bool false))))]
def i6_0 : CW := .seq (.fin (.reg g6_22) [136, 137, 138, 139, 140, 141, 142, 143, 144, 145, 146, 147, 148, 149, 150, 151, 152, 153, 154, 155, 156, 157, 158, 159] []) (.fin (.cond (.s 160) (.seq (.fin (.reg g6_23) [0, 1, 2, 3, 9, 11, 12, 160] [(203, 15)]) (.ret)) (.skip)) [160] [])
def g6_10 : LS := [o1 55 (mvS 2),
 o1 56 (mvS 12),
 o1 57 (ixS 1 55 56),
 o1 58 (.loade 1 false 57),
 o1 59 (.conv .u64 (.s 58)),
 o1 60 (mvS 0),
 o1 61 (lnS 60),
 o1 62 (.bin .add (.s 61) (.k (.sc (.int .i64 1)))),
 o1 63 (.conv .u64 (.s 62)),
 o1 64 (bnS .rem 59 63),
 o1 65 (.conv .i64 (.s 64)),
 o1 13 (mvS 65)]
def g6_11 : LS := [o1 66 (mvS 2),
 o1 67 (mvS 12),
 o1 68 (ixS 1 66 67),
 o1 69 (.loade 1 false 68),
 o1 70 (.conv .u64 (.s 69)),
 o1 71 (.bin .shr (.s 70) (.k (.sc (.int .u64 10)))),
 o1 72 (.bin .rem (.s 71) (.k (.sc (.int .u64 16)))),
 o1 73 (.conv .i64 (.s 72)),
 o1 74 (.bin .add (.s 73) (.k (.sc (.int .i64 1)))),
 o1 14 (mvS 74)]
def g6_12 : LS := [o1 76 (.load 203 0 15 true false 9),
 o1 77 (mvS 1),
 o1 78 (mvS 0),
 o1 79 (mvS 13),
 o1 80 (mvS 14),
 o1 81 (.call 19 [(false, .s 77), (false, .s 78), (false, .s 79), (false, .s 80), (false, .k (.sc (.bool true)))] [] []),
 o1 82 (.call 12 [(false, .s 76), (false, .s 81)] [] []),
 o1 75 (mvS 82),
 o1 83 (.ext false 0 (.s 75)),
 o1 84 (.ext false 1 (.s 75)),
 o1 85 (.ext false 2 (.s 75)),
 o1 86 (.ext false 3 (.s 75)),
 o1 15 (.alloc 219 [.sc (.int .i64 0), .row false (.ruint8 []), .row false (.rPiece []), .sc (.int .i64 0), .sc (.int .i64 0), .sc (.int .i64 0), .sc (.int .u32 0), .sc (.bool false), .sc (.bool false), .sc (.int .i64 0), .sc (.bool false), .row false (.rSpan []), .sc (.int .u32 0), .sc (.int .u32 0), .sc (.bool false)]),
 o1 16 (.alloc 235 [.sc (.int .i64 0), .sc (.int .i64 0), .sc (.int .u32 0), .sc (.int .u32 0), .sc (.int .i64 0), .sc (.int .i64 0), .sc (.int .i64 0), .sc (.int .i64 0), .sc (.int .i64 0), .sc (.bool false), .sc (.bool false), .sc (.int .u32 0), .sc (.int .u32 0), .row false (.rBlock []), .row false (.ruint8 [])]),
 o0 (.store 219 0 15 false 15 (.s 83)),
 o0 (.store 235 0 15 false 16 (.s 84)),
 o1 17 (mvS 85),
 o1 18 (mvS 86)]
def g6_13 : LS := [o1 87 (mvS 18),
 o1 88 (.bin .neq (.s 87) (.k (.sc (.int .i64 0)))),
 o2 89 (mvS 88),
 o3 90 89 false (mvS 17),
 o3 91 89 false (ntS 90),
 o1 92 (.pick (.s 89) (.k (.sc (.bool true))) (.s 91)),
 o2 93 (mvS 92),
 o3 94 93 false (.load 219 0 15 true false 15),
 o3 95 93 false (.call 10 [(false, .s 94)] [] []),
 o3 96 93 false (.bin .neq (.s 95) (.k (.sc (.int .i64 0)))),
 o1 97 (.pick (.s 93) (.k (.sc (.bool true))) (.s 96)),
 o2 98 (mvS 97),
 o3 99 98 false (fdS 0 15),
 o3 100 98 false (ldS 219 0 99),
 o3 101 98 false (fdS 0 9),
 o3 102 98 false (ldS 203 0 101),
 o3 103 98 false (bnS .lss 100 102),
 o1 104 (.pick (.s 98) (.k (.sc (.bool true))) (.s 103)),
 o2 105 (mvS 104),
 o3 106 105 false (fdS 5 15),
 o3 107 105 false (ldS 219 5 106),
 o3 108 105 false (fdS 5 9),
 o3 109 105 false (ldS 203 5 108),
 o3 110 105 false (bnS .lss 107 109),
 o1 111 (.pick (.s 105) (.k (.sc (.bool true))) (.s 110))]
def g6_14 : LS := [o1 8 (.mv false (.k (.sc (.bool false))))]
def g6_15 : LS := [o1 112 (.load 219 0 15 true false 15),
 o0 (.store 203 0 15 false 9 (.s 112))]
def g6_16 : LS := [o1 113 (mvS 12),
 o1 114 (mvS 3),
 o1 115 (lnS 114),
 o1 116 (bnS .lss 113 115)]
def g6_17 : LS := [o1 118 (.load 203 0 15 true false 9),
 o1 119 (mvS 3),
 o1 120 (mvS 12),
 o1 121 (ixS 1 119 120),
 o1 122 (.loade 1 false 121),
 o1 123 (.bin .and (.s 122) (.k (.sc (.int .i64 31)))),
 o1 124 (.call 20 [(false, .s 118), (false, .s 123)] [] []),
 o1 117 (mvS 124),
 o1 125 (.ext false 0 (.s 117)),
 o1 126 (.ext false 1 (.s 117)),
 o1 127 (.ext false 2 (.s 117)),
 o1 128 (.ext false 3 (.s 117)),
 o1 129 (.ext false 4 (.s 117)),
 o1 19 (.alloc 251 [.sc (.int .i64 0), .row false (.ruint8 []), .row false (.rPiece []), .sc (.int .i64 0), .sc (.int .i64 0), .sc (.int .i64 0), .sc (.int .u32 0), .sc (.bool false), .sc (.bool false), .sc (.int .i64 0), .sc (.bool false), .row false (.rSpan []), .sc (.int .u32 0), .sc (.int .u32 0), .sc (.bool false)]),
 o1 21 (.alloc 267 [.sc (.int .i64 0), .sc (.int .i64 0), .sc (.int .u32 0), .sc (.int .u32 0), .sc (.int .i64 0), .sc (.int .i64 0), .sc (.int .i64 0), .sc (.int .i64 0), .sc (.int .i64 0), .sc (.bool false), .sc (.bool false), .sc (.int .u32 0), .sc (.int .u32 0), .row false (.rBlock []), .row false (.ruint8 [])]),
 o0 (.store 251 0 15 false 19 (.s 125)),
 o1 20 (mvS 126),
 o0 (.store 267 0 15 false 21 (.s 127)),
 o1 22 (mvS 128),
 o1 23 (mvS 129)]
def g6_18 : LS := [o1 130 (mvS 23),
 o1 131 (.bin .neq (.s 130) (.k (.sc (.int .i64 0))))]
def g6_19 : LS := [o1 8 (.mv false (.k (.sc (.bool false))))]
def g6_20 : LS := [o1 132 (.mv true (.s 11)),
 o1 133 (mvS 20),
 o1 134 (.app 1 1 true (.s 132) (.s 133)),
 o1 11 (.mv true (.s 134))]
def g6_21 : LS := [o1 135 (.load 251 0 15 true false 19),
 o0 (.store 203 0 15 false 9 (.s 135))]
def i6_1 : CW := .seq (.fin (.reg g6_10) [55, 56, 57, 58, 59, 60, 61, 62, 63, 64, 65] []) (.seq (.fin (.reg g6_11) [66, 67, 68, 69, 70, 71, 72, 73, 74] []) (.seq (.fin (.reg g6_12) [13, 14, 16, 75, 76, 77, 78, 79, 80, 81, 82, 83, 84, 85, 86] [(235, 15)]) (.seq (.seq (.fin (.reg g6_13) [17, 18, 87, 88, 89, 90, 91, 92, 93, 94, 95, 96, 97, 98, 99, 100, 101, 102, 103, 104, 105, 106, 107, 108, 109, 110] []) (.fin (.cond (.s 111) (.seq (.fin (.reg g6_14) [0, 1, 2, 3, 9, 11, 12, 15, 111] [(203, 15), (219, 15)]) (.ret)) (.skip)) [111] [])) (.seq (.fin (.reg g6_15) [15, 112] [(219, 15)]) (.seq (.seq (.fin (.reg g6_16) [113, 114, 115] []) (.fin (.cond (.s 116) (.seq (.fin (.reg g6_17) [21, 22, 116, 117, 118, 119, 120, 121, 122, 123, 124, 125, 126, 127, 128, 129] [(267, 15)]) (.seq (.seq (.fin (.reg g6_18) [23, 130] []) (.fin (.cond (.s 131) (.seq (.fin (.reg g6_19) [0, 1, 2, 3, 9, 11, 12, 19, 20, 131] [(203, 15), (251, 15)]) (.ret)) (.skip)) [131] [])) (.seq (.fin (.reg g6_20) [20, 132, 133, 134] []) (.fin (.reg g6_21) [19, 135] [(251, 15)])))) (.skip)) [116] [])) i6_0)))))
def i6_2 : CW := .blk 1 i6_1
def g6_9 : LS := [o1 53 (mvS 12),
 o1 54 (.bin .add (.s 53) (.k (.sc (.int .i64 1)))),
 o1 12 (mvS 54)]
def i6_3 : CW := .fin (.reg g6_9) [53, 54] []
def i6_4 : CW := .seq i6_2 i6_3
def g6_8 : LS := [o1 49 (mvS 12),
 o1 50 (mvS 2),
 o1 51 (lnS 50),
 o1 52 (bnS .lss 49 51)]
def i6_5 : CW := .seq (.seq (.fin (.reg g6_8) [49, 50, 51] []) (.fin (.cond (.s 52) (.skip) (.clr [2, 3, 12, 52] [] (.exit 0))) [52] [])) i6_4
def i6_6 : CW := .loop i6_5
def i6_7 : CW := .blk 0 i6_6
def g6_7 : LS := [o1 12 (.mv false (.k (.sc (.int .i64 0))))]
def i6_8 : CW := .seq (.reg g6_7) i6_7
def g6_26 : LS := [o1 183 (mvS 27),
 o1 184 (.bin .eql (.s 183) (.k (.sc (.int .i64 0)))),
 o2 185 (mvS 184),
 o3 186 185 true (mvS 32),
 o3 187 185 true (.bin .eql (.s 186) (.k (.sc (.int .i64 0)))),
 o1 188 (.pick (.s 185) (.s 187) (.k (.sc (.bool false)))),
 o2 189 (mvS 188),
 o3 190 189 true (fdS 10 28),
 o3 191 189 true (ldS 315 10 190),
 o1 192 (.pick (.s 189) (.s 191) (.k (.sc (.bool false)))),
 o2 193 (mvS 192),
 o3 194 193 true (.mv true (.s 11)),
 o3 195 193 true (mvS 29),
 o3 196 193 true (.app 1 1 true (.s 194) (.s 195)),
 o3 197 193 true (mvS 0),
 o3 198 193 true (.call 21 [(false, .s 196), (false, .s 197)] [] []),
 o1 199 (.pick (.s 193) (.s 198) (.k (.sc (.bool false)))),
 o2 200 (mvS 199),
 o3 201 200 true (.call 11 [] [] []),
 o1 202 (.pick (.s 200) (.s 201) (.k (.sc (.bool false)))),
 o1 8 (mvS 202)]
def i6_9 : CW := .seq (.fin (.reg g6_26) [0, 11, 27, 28, 29, 32, 183, 184, 185, 186, 187, 188, 189, 190, 191, 192, 193, 194, 195, 196, 197, 198, 199, 200, 201, 202] [(315, 15)]) (.ret)
def g6_24 : LS := [o1 162 (.load 203 0 15 true false 9),
 o1 163 (mvS 1),
 o1 164 (mvS 0),
 o1 165 (mvS 0),
 o1 166 (lnS 165),
 o1 167 (.call 19 [(false, .s 163), (false, .s 164), (false, .k (.sc (.int .i64 0))), (false, .s 166), (false, .k (.sc (.bool true)))] [] []),
 o1 168 (.call 12 [(false, .s 162), (false, .s 167)] [] []),
 o1 161 (mvS 168),
 o1 169 (.ext false 0 (.s 161)),
 o1 170 (.ext false 1 (.s 161)),
 o1 171 (.ext false 2 (.s 161)),
 o1 172 (.ext false 3 (.s 161)),
 o1 24 (.alloc 283 [.sc (.int .i64 0), .row false (.ruint8 []), .row false (.rPiece []), .sc (.int .i64 0), .sc (.int .i64 0), .sc (.int .i64 0), .sc (.int .u32 0), .sc (.bool false), .sc (.bool false), .sc (.int .i64 0), .sc (.bool false), .row false (.rSpan []), .sc (.int .u32 0), .sc (.int .u32 0), .sc (.bool false)]),
 o1 25 (.alloc 299 [.sc (.int .i64 0), .sc (.int .i64 0), .sc (.int .u32 0), .sc (.int .u32 0), .sc (.int .i64 0), .sc (.int .i64 0), .sc (.int .i64 0), .sc (.int .i64 0), .sc (.int .i64 0), .sc (.bool false), .sc (.bool false), .sc (.int .u32 0), .sc (.int .u32 0), .row false (.rBlock []), .row false (.ruint8 [])]),
 o0 (.store 283 0 15 false 24 (.s 169)),
 o0 (.store 299 0 15 false 25 (.s 170)),
 o1 26 (mvS 171),
 o1 27 (mvS 172)]
def g6_25 : LS := [o1 174 (.load 283 0 15 true false 24),
 o1 175 (mvS 0),
 o1 176 (lnS 175),
 o1 177 (.call 20 [(false, .s 174), (false, .s 176)] [] []),
 o1 173 (mvS 177),
 o1 178 (.ext false 0 (.s 173)),
 o1 179 (.ext false 1 (.s 173)),
 o1 180 (.ext false 2 (.s 173)),
 o1 181 (.ext false 3 (.s 173)),
 o1 182 (.ext false 4 (.s 173)),
 o1 28 (.alloc 315 [.sc (.int .i64 0), .row false (.ruint8 []), .row false (.rPiece []), .sc (.int .i64 0), .sc (.int .i64 0), .sc (.int .i64 0), .sc (.int .u32 0), .sc (.bool false), .sc (.bool false), .sc (.int .i64 0), .sc (.bool false), .row false (.rSpan []), .sc (.int .u32 0), .sc (.int .u32 0), .sc (.bool false)]),
 o1 30 (.alloc 331 [.sc (.int .i64 0), .sc (.int .i64 0), .sc (.int .u32 0), .sc (.int .u32 0), .sc (.int .i64 0), .sc (.int .i64 0), .sc (.int .i64 0), .sc (.int .i64 0), .sc (.int .i64 0), .sc (.bool false), .sc (.bool false), .sc (.int .u32 0), .sc (.int .u32 0), .row false (.rBlock []), .row false (.ruint8 [])]),
 o0 (.store 315 0 15 false 28 (.s 178)),
 o1 29 (mvS 179),
 o0 (.store 331 0 15 false 30 (.s 180)),
 o1 31 (mvS 181),
 o1 32 (mvS 182)]
def i6_10 : CW := .seq (.fin (.reg g6_24) [1, 9, 25, 26, 161, 162, 163, 164, 165, 166, 167, 168, 169, 170, 171, 172] [(203, 15), (299, 15)]) (.seq (.fin (.reg g6_25) [24, 30, 31, 173, 174, 175, 176, 177, 178, 179, 180, 181, 182] [(283, 15), (331, 15)]) i6_9)
def i6_11 : CW := .seq i6_8 i6_10
def g6_0 : LS := [o1 8 (.mv false (.k (.sc (.bool false))))]
def g6_1 : LS := [o1 33 (mvS 0),
 o1 34 (lnS 33),
 o1 35 (.bin .gtr (.s 34) (.k (.sc (.int .i64 200)))),
 o2 36 (mvS 35),
 o3 37 36 false (mvS 2),
 o3 38 36 false (lnS 37),
 o3 39 36 false (.bin .gtr (.s 38) (.k (.sc (.int .i64 200)))),
 o1 40 (.pick (.s 36) (.k (.sc (.bool true))) (.s 39))]
def g6_2 : LS := [o1 41 (.call 11 [] [] []),
 o1 8 (mvS 41)]
def g6_3 : LS := [o1 43 (mvS 1),
 o1 44 (.call 17 [(false, .k (.sc (.int .i64 1000))), (false, .k (.sc (.int .i64 2))), (false, .s 43), (false, .k (.sc (.int .u32 0))), (false, .k (.sc (.bool true))), (false, .k (.sc (.bool true)))] [] []),
 o1 42 (mvS 44),
 o1 45 (.ext false 0 (.s 42)),
 o1 46 (.ext false 1 (.s 42)),
 o1 9 (.alloc 203 [.sc (.int .i64 0), .row false (.ruint8 []), .row false (.rPiece []), .sc (.int .i64 0), .sc (.int .i64 0), .sc (.int .i64 0), .sc (.int .u32 0), .sc (.bool false), .sc (.bool false), .sc (.int .i64 0), .sc (.bool false), .row false (.rSpan []), .sc (.int .u32 0), .sc (.int .u32 0), .sc (.bool false)]),
 o0 (.store 203 0 15 false 9 (.s 45)),
 o1 10 (mvS 46)]
def g6_4 : LS := [o1 47 (mvS 10),
 o1 48 (.bin .neq (.s 47) (.k (.sc (.int .i64 0))))]
def g6_5 : LS := [o1 8 (.mv false (.k (.sc (.bool false))))]
def g6_6 : LS := [o1 11 (.mv true (.k (.row true (.ruint8 []))))]
def i6_12 : CW := .seq (.fin (.reg g6_0) [8] []) (.seq (.seq (.fin (.reg g6_1) [33, 34, 35, 36, 37, 38, 39] []) (.fin (.cond (.s 40) (.seq (.fin (.reg g6_2) [0, 1, 2, 3, 40, 41] []) (.ret)) (.skip)) [40] [])) (.seq (.fin (.reg g6_3) [42, 43, 44, 45, 46] []) (.seq (.seq (.fin (.reg g6_4) [10, 47] []) (.fin (.cond (.s 48) (.seq (.fin (.reg g6_5) [0, 1, 2, 3, 9, 48] [(203, 15)]) (.ret)) (.skip)) [48] [])) (.seq (.reg g6_6) i6_11))))
def fn6 : IFn2 RW := ⟨6, 4, 203, 352, [(203, 15), (219, 15), (235, 15), (251, 15), (267, 15), (283, 15), (299, 15), (315, 15), (331, 15)], [], [], [.slot 8], i6_12⟩
end
/-! tideway/recv.window -/
section
variable (cp : CP) (n : Nat) (k : KX R)
theorem run49 (cp : CP) (n : Nat) (p0 : SRecv) (k : Ret2 RW → Option R) : G49 cp (n + 1) p0 (fun r0 => k ⟨(tL r0), [], []⟩) = run2 U cp (callP cp n) n fn49 [.agg (eRecv p0)] [] k := by kernel_rfl
end
/-! tideway/recv.New -/
section
variable (cp : CP) (n : Nat) (k : KX R)
theorem run17 (cp : CP) (n : Nat) (p0 p1 p2 p3 : Int) (p4 p5 : Bool) (k : Ret2 RW → Option R) : G17 cp (n + 1) p0 p1 p2 p3 p4 p5 (fun r0 r1 => k ⟨.tup [.agg (eRecv r0), (tL r1)], [], []⟩) = run2 U cp (callP cp n) n fn17 [(tL p0), (tL p1), (tI .u32 p2), (tI .u32 p3), (tB p4), (tB p5)] [] k := by kernel_rfl
end
/-! tideway/recv.reach -/
section
variable (cp : CP) (n : Nat) (k : KX R)
theorem run27 (cp : CP) (n : Nat) (p0 : SRecv) (k : Ret2 RW → Option R) : G27 cp (n + 1) p0 (fun r0 => k ⟨(tL r0), [], []⟩) = run2 U cp (callP cp n) n fn27 [.agg (eRecv p0)] [] k := by kernel_rfl
end
/-! tideway/recv.limit -/
section
variable (cp : CP) (n : Nat) (k : KX R)
theorem run53 (cp : CP) (n : Nat) (p0 : SRecv) (k : Ret2 RW → Option R) : G53 cp (n + 1) p0 (fun r0 => k ⟨(tL r0), [], []⟩) = run2 U cp (callP cp n) n fn53 [.agg (eRecv p0)] [] k := by kernel_rfl
end
/-! tideway/recv.late -/
section
variable (cp : CP) (n : Nat) (k : KX R)
theorem run55 (cp : CP) (n : Nat) (p0 : SRecv) (k : Ret2 RW → Option R) : G55 cp (n + 1) p0 (fun r0 => k ⟨.clo 70 [(4, 0)], [], [(eRecv r0)]⟩) = run2 U cp (callP cp n) n fn55 [.agg (eRecv p0)] [] k := by kernel_rfl
end
/-! tideway/recv.of -/
section
variable (cp : CP) (n : Nat) (k : KX R)
theorem run71 (cp : CP) (n : Nat) (p0 : SPiece) (k : Ret2 RW → Option R) : G71 cp (n + 1) p0 (fun r0 => k ⟨.agg (eSpan r0), [], []⟩) = run2 U cp (callP cp n) n fn71 [.agg (ePiece p0)] [] k := by kernel_rfl
end
/-! slices.AppendSeq[[]tideway/api.Span,tideway/api.Span] -/
section
variable (cp : CP) (n : Nat) (p0 : (List SSpan)) (q0 : SRecv) (v12 v13 : Int) (v14 : (List SSpan)) (v15 : Int) (v16 : (List Int)) (v18 v19 : Int) (v20 v21 v22 v23 v24 : (List SSpan)) (v25 v26 : Int) (v27 : (List SSpan)) (v28 : Int) (v29 v30 v31 v32 v33 v34 v35 v36 v37 : (List SSpan)) (k : KX R)
def w1011_0 : Fr := (.hdr 15) :: (eRecv q0)
def w1011_1 : Fr := (.hdr 1) :: (.row true (.rSpan p0)) :: (dT 14 [])
def fr1011_2 : FF := [dT 1 ((.clo 70 [(32, 0)]) :: (.ptr 48 0) :: (dT 13 [])), dc, w1011_0 q0, w1011_1 p0]
def w1011_2 : Fr := dT 2 ((.ptr 48 0) :: (dT 3 ((.clo 70 [(32, 0)]) :: (dT 9 []))))
def fr1011_4 : FF := [w1011_2, dc, w1011_0 q0, w1011_1 p0]
def fr1011_6 : FF := [w1011_2, dc, dc, dc]
def y1011_5 (cp : CP) (n : Nat) : List (TV RW) → FF → (FF → Option R) → Option R := rndT 2 [7] [32, 48, 53] fr1011_6 (X cp n i1011_2)
def fr1011_8 : FF := [.yld :: (dT 5 ((.row false (.rPiece q0.xLate)) :: (tL v12) :: (tL 0) :: (dT 7 []))), dc, w1011_0 q0, w1011_1 p0]
def w1011_3 : Fr := .yld :: (dT 5 ((.row false (.rPiece q0.xLate)) :: (tL v12) :: (tL v13) :: (dT 7 [])))
def w1011_4 : Fr := (.hdr 1) :: (.row true (.rSpan v14)) :: (dT 14 [])
def fr1011_10 : FF := [w1011_3 q0 v12 v13, dc, w1011_0 q0, w1011_4 v14]
def fr1011_11 : FF := [dc, dc, w1011_0 q0, w1011_4 v14]
def w1011_5 : Fr := (.hdr 1) :: (.row true (.rSpan v14)) :: (dT 3 ((.hdr 2) :: (tL v15) :: (.row false (.ruint8 v16)) :: (dT 8 [])))
def fr1011_13 : FF := [.yld :: (dT 3 ((.ptr 53 0) :: (dT 1 ((.row false (.rPiece q0.xLate)) :: (tL v12) :: (tL v13) :: (dT 7 []))))), dc, w1011_0 q0, w1011_5 v14 v15 v16]
def fr1011_15 : FF := [.yld :: (dT 3 ((.ptr 53 0) :: (dT 1 ((.row false (.rPiece q0.xLate)) :: (tL v12) :: (tL v13) :: (dT 3 (.yld :: (.agg [(tL v15), .row false (.ruint8 v16)]) :: (.agg [(tL v18), (tL v19)]) :: (dT 1 []))))))), dc, w1011_0 q0, w1011_5 v14 v15 v16]
theorem s1011_14_t (cp : CP) (n : Nat) (q0 : SRecv) (v12 v13 : Int) (v14 : (List SSpan)) (v15 : Int) (v16 : (List Int)) (A B : FF → Option R) : (gF (fr1011_13 q0 v12 v13 v14 v15 v16) fun l => steps2 U cp (callP cp n) g1011_10031 l fun l1 => yGuard2 none l1 (A l1) (B l1)) = s1011_14 cp n q0 v12 v13 v14 v15 v16 (fun v18 v19 => A (fr1011_15 q0 v12 v13 v14 v15 v16 v18 v19)) := by kernel_rfl
def w1011_6 : Fr := (.hdr 1) :: (.row true (.rSpan v20)) :: (dT 3 ((.hdr 2) :: (tL v15) :: (.row false (.ruint8 v16)) :: (dT 8 [])))
def fr1011_17 : FF := [w1011_2, dc, w1011_0 q0, w1011_6 v15 v16 v20]
def fr1011_18 : FF := [dT 2 ((.ptr 48 0) :: (dT 3 ((.clo 70 [(32, 0)]) :: (.agg [(tL v18), (tL v19)]) :: (dT 8 [])))), dc, w1011_0 q0, w1011_5 v14 v15 v16]
theorem s1011_16_t : X cp n i1011_2 (fr1011_18 q0 v14 v15 v16 v18 v19) k = s1011_16 cp n q0 v14 v15 v16 v18 v19 (fun v20 => k .norm (fr1011_17 q0 v15 v16 v20)) := by kernel_rfl
def fr1011_20 : FF := [.yld :: (dT 3 ((.ptr 53 0) :: (dT 1 ((.row false (.rPiece q0.xLate)) :: (tL v12) :: (tL v13) :: (dT 3 ([.yld, .agg [(tL v15), .row false (.ruint8 v16)], .agg [(tL v18), (tL v19)], (tB true)])))))), dc, w1011_0 q0, w1011_6 v15 v16 v20]
theorem q1011_19_t (cp : CP) (n : Nat) (q0 : SRecv) (v12 v13 : Int) (v14 : (List SSpan)) (v15 : Int) (v16 : (List Int)) (v18 v19 : Int) (K : FF → Option R) : yRun2 (y1011_5 cp n) (.s 12) [.s 14] 15 (fr1011_15 q0 v12 v13 v14 v15 v16 v18 v19) K = s1011_16 cp n q0 v14 v15 v16 v18 v19 (fun v20 => K (fr1011_20 q0 v12 v13 v15 v16 v18 v19 v20)) := ((fun x => (show yRun2 (rndT 2 [7] [32, 48, 53] fr1011_6 x) (.s 12) [.s 14] 15 (fr1011_15 q0 v12 v13 v14 v15 v16 v18 v19) K = x (fr1011_18 q0 v14 v15 v16 v18 v19) (roundT 2 (fr1011_15 q0 v12 v13 v14 v15 v16 v18 v19) (fun l2 => putO l2 (some 15) (.sc (.bool true)) K)) from by kernel_rfl)) (X cp n i1011_2)).trans ((s1011_16_t cp n q0 v14 v15 v16 v18 v19 (roundT 2 (fr1011_15 q0 v12 v13 v14 v15 v16 v18 v19) (fun l2 => putO l2 (some 15) (.sc (.bool true)) K))).trans (by kernel_rfl))
def w1011_7 : Fr := (.hdr 1) :: (.row true (.rSpan v21)) :: (dT 14 [])
def fr1011_21 : FF := [w1011_3 q0 v12 v13, (tB false) :: (dT 15 []), w1011_0 q0, w1011_7 v21]
theorem s1011_22_t : XI cp n (y1011_5 cp n) i1011_4 (fr1011_13 q0 v12 v13 v14 v15 v16) k = s1011_22 cp n q0 v12 v13 v14 v15 v16 (fun v21 => k .norm (fr1011_21 q0 v12 v13 v21)) := (show XI cp n (y1011_5 cp n) i1011_4 (fr1011_13 q0 v12 v13 v14 v15 v16) k = gF (fr1011_13 q0 v12 v13 v14 v15 v16) fun l => steps2 U cp (callP cp n) g1011_10031 l fun l1 => yGuard2 none l1 ((fun l1 => yRun2 (y1011_5 cp n) (.s 12) [.s 14] 15 l1 (fun l2 => steps2 U cp (callP cp n) g1011_10032 l2 ((clrT [4, 12, 13, 14, 15] [(53, 2)] k) .norm))) l1) ((fun l1 => putO l1 (some 15) (.tup []) fun l2 => steps2 U cp (callP cp n) g1011_10032 l2 ((clrT [4, 12, 13, 14, 15] [(53, 2)] k) .norm)) l1) from by kernel_rfl).trans ((s1011_14_t cp n q0 v12 v13 v14 v15 v16 (fun l1 => yRun2 (y1011_5 cp n) (.s 12) [.s 14] 15 l1 (fun l2 => steps2 U cp (callP cp n) g1011_10032 l2 ((clrT [4, 12, 13, 14, 15] [(53, 2)] k) .norm))) (fun l1 => putO l1 (some 15) (.tup []) fun l2 => steps2 U cp (callP cp n) g1011_10032 l2 ((clrT [4, 12, 13, 14, 15] [(53, 2)] k) .norm))).trans (congrArg (s1011_14 cp n q0 v12 v13 v14 v15 v16) (funext fun v18 => funext fun v19 => (q1011_19_t cp n q0 v12 v13 v14 v15 v16 v18 v19 (fun l2 => steps2 U cp (callP cp n) g1011_10032 l2 ((clrT [4, 12, 13, 14, 15] [(53, 2)] k) .norm))).trans (show s1011_16 cp n q0 v14 v15 v16 v18 v19 (fun v20 => (fun l2 => steps2 U cp (callP cp n) g1011_10032 l2 ((clrT [4, 12, 13, 14, 15] [(53, 2)] k) .norm)) (fr1011_20 q0 v12 v13 v15 v16 v18 v19 v20)) = s1011_16 cp n q0 v14 v15 v16 v18 v19 (fun v20 => k .norm (fr1011_21 q0 v12 v13 v20)) from by kernel_rfl))))
def fr1011_24 : FF := [w1011_3 q0 v12 v13, dc, w1011_0 q0, w1011_7 v21]
theorem s1011_23_t : XI cp n (y1011_5 cp n) i1011_5 (fr1011_21 q0 v12 v13 v21) k = s1011_23 cp n q0 v12 v13 v21 (k .norm (fr1011_24 q0 v12 v13 v21)) := by kernel_rfl
def fr1011_25 : FF := [w1011_3 q0 v12 v13, dc, w1011_0 q0, (.hdr 1) :: (.row true (.rSpan v22)) :: (dT 14 [])]
theorem s1011_26_t : XI cp n (y1011_5 cp n) i1011_6 (fr1011_13 q0 v12 v13 v14 v15 v16) k = s1011_26 cp n q0 v12 v13 v14 v15 v16 (fun v22 => k .norm (fr1011_25 q0 v12 v13 v22)) := (show XI cp n (y1011_5 cp n) i1011_6 (fr1011_13 q0 v12 v13 v14 v15 v16) k = XI cp n (y1011_5 cp n) i1011_4 (fr1011_13 q0 v12 v13 v14 v15 v16) (seqT (XI cp n (y1011_5 cp n)) i1011_5 k) from by kernel_rfl).trans ((show XI cp n (y1011_5 cp n) i1011_4 (fr1011_13 q0 v12 v13 v14 v15 v16) (seqT (XI cp n (y1011_5 cp n)) i1011_5 k) = s1011_22 cp n q0 v12 v13 v14 v15 v16 (fun v21 => XI cp n (y1011_5 cp n) i1011_5 (fr1011_21 q0 v12 v13 v21) k) from (s1011_22_t cp n q0 v12 v13 v14 v15 v16 (seqT (XI cp n (y1011_5 cp n)) i1011_5 k)).trans (by kernel_rfl)).trans (congrArg (fun q => s1011_22 cp n q0 v12 v13 v14 v15 v16 q) (funext fun v21 => (s1011_23_t cp n q0 v12 v13 v21 k).trans (show s1011_23 cp n q0 v12 v13 v21 (k .norm (fr1011_24 q0 v12 v13 v21)) = s1011_23 cp n q0 v12 v13 v21 (k .norm (fr1011_25 q0 v12 v13 v21)) from by kernel_rfl))))
def fr1011_27 : FF := [w1011_3 q0 v12 v13, dc, w1011_0 q0, (.hdr 1) :: (.row true (.rSpan v23)) :: (dT 14 [])]
theorem s1011_28_t : XI cp n (y1011_5 cp n) i1011_7 (fr1011_10 q0 v12 v13 v14) k = s1011_28 cp n q0 v12 v13 v14 (fun v23 => k .norm (fr1011_27 q0 v12 v13 v23)) := ((fun c => (show XI cp n (y1011_5 cp n) (.seq (.fin (.reg g1011_1002) [10, 11] []) c) (fr1011_10 q0 v12 v13 v14) k = s1011_12 cp n q0 v12 v13 v14 (fun v15 v16 => XI cp n (y1011_5 cp n) c (fr1011_13 q0 v12 v13 v14 v15 v16) k) from by kernel_rfl)) i1011_6).trans (congrArg (fun q => s1011_12 cp n q0 v12 v13 v14 q) (funext fun v15 => funext fun v16 => (s1011_26_t cp n q0 v12 v13 v14 v15 v16 k).trans (show s1011_26 cp n q0 v12 v13 v14 v15 v16 (fun v22 => k .norm (fr1011_25 q0 v12 v13 v22)) = s1011_26 cp n q0 v12 v13 v14 v15 v16 (fun v22 => k .norm (fr1011_27 q0 v12 v13 v22)) from by kernel_rfl)))
def w1011_8 : Fr := (.hdr 1) :: (.row true (.rSpan v24)) :: (dT 14 [])
def fr1011_29 : FF := [w1011_3 q0 v12 v13, dc, w1011_0 q0, w1011_8 v24]
theorem s1011_30_t : XI cp n (y1011_5 cp n) i1011_8 (fr1011_10 q0 v12 v13 v14) k = s1011_30 cp n q0 v12 v13 v14 (fun v24 => k .norm (fr1011_29 q0 v12 v13 v24)) := (show XI cp n (y1011_5 cp n) i1011_8 (fr1011_10 q0 v12 v13 v14) k = XI cp n (y1011_5 cp n) i1011_7 (fr1011_10 q0 v12 v13 v14) (blkT 1 k) from by kernel_rfl).trans ((s1011_28_t cp n q0 v12 v13 v14 (blkT 1 k)).trans (by kernel_rfl))
def fr1011_32 : FF := [.yld :: (dT 5 ((.row false (.rPiece q0.xLate)) :: (tL v12) :: (tL v25) :: (dT 7 []))), dc, w1011_0 q0, w1011_8 v24]
theorem s1011_31_t : XI cp n (y1011_5 cp n) i1011_9 (fr1011_29 q0 v12 v13 v24) k = s1011_31 cp n q0 v12 v13 v24 (fun v25 => k .norm (fr1011_32 q0 v12 v24 v25)) := by kernel_rfl
def fr1011_33 : FF := [.yld :: (dT 5 ((.row false (.rPiece q0.xLate)) :: (tL v12) :: (tL v26) :: (dT 7 []))), dc, w1011_0 q0, (.hdr 1) :: (.row true (.rSpan v27)) :: (dT 14 [])]
theorem s1011_34_t : XI cp n (y1011_5 cp n) i1011_10 (fr1011_10 q0 v12 v13 v14) k = s1011_34 cp n q0 v12 v13 v14 (fun v26 v27 => k .norm (fr1011_33 q0 v12 v26 v27)) := (show XI cp n (y1011_5 cp n) i1011_10 (fr1011_10 q0 v12 v13 v14) k = XI cp n (y1011_5 cp n) i1011_8 (fr1011_10 q0 v12 v13 v14) (seqT (XI cp n (y1011_5 cp n)) i1011_9 k) from by kernel_rfl).trans ((show XI cp n (y1011_5 cp n) i1011_8 (fr1011_10 q0 v12 v13 v14) (seqT (XI cp n (y1011_5 cp n)) i1011_9 k) = s1011_30 cp n q0 v12 v13 v14 (fun v24 => XI cp n (y1011_5 cp n) i1011_9 (fr1011_29 q0 v12 v13 v24) k) from (s1011_30_t cp n q0 v12 v13 v14 (seqT (XI cp n (y1011_5 cp n)) i1011_9 k)).trans (by kernel_rfl)).trans (congrArg (fun q => s1011_30 cp n q0 v12 v13 v14 q) (funext fun v24 => (s1011_31_t cp n q0 v12 v13 v24 k).trans (show s1011_31 cp n q0 v12 v13 v24 (fun v25 => k .norm (fr1011_32 q0 v12 v24 v25)) = s1011_31 cp n q0 v12 v13 v24 (fun v25 => k .norm (fr1011_33 q0 v12 v25 v24)) from by kernel_rfl))))
def fr1011_35 : FF := [.yld :: (dT 5 ((.row false (.rPiece q0.xLate)) :: (tL v12) :: (tL v28) :: (dT 7 []))), dc, w1011_0 q0, (.hdr 1) :: (.row true (.rSpan v29)) :: (dT 14 [])]
theorem s1011_36_t : XI cp n (y1011_5 cp n) i1011_11 (fr1011_10 q0 v12 v13 v14) k = s1011_36 cp n q0 v12 v13 v14 (fun v28 v29 => k .norm (fr1011_35 q0 v12 v28 v29)) (k (.exit 0) (fr1011_11 q0 v14)) := ((fun c => (show XI cp n (y1011_5 cp n) (.seq (.reg g1011_1001) (.seq (.fin (.cond (.s 9) (.skip) (.clr [0, 6, 7, 8, 9] [] (.exit 0))) [9] []) c)) (fr1011_10 q0 v12 v13 v14) k = s1011_9 cp n q0 v12 v13 v14 (XI cp n (y1011_5 cp n) c (fr1011_10 q0 v12 v13 v14) k) (k (.exit 0) (fr1011_11 q0 v14)) from by kernel_rfl)) i1011_10).trans (congrArg (fun q => s1011_9 cp n q0 v12 v13 v14 q (k (.exit 0) (fr1011_11 q0 v14))) ((s1011_34_t cp n q0 v12 v13 v14 k).trans (show s1011_34 cp n q0 v12 v13 v14 (fun v26 v27 => k .norm (fr1011_33 q0 v12 v26 v27)) = s1011_34 cp n q0 v12 v13 v14 (fun v26 v27 => k .norm (fr1011_35 q0 v12 v26 v27)) from by kernel_rfl)))
def fr1011_37 : FF := [dc, dc, w1011_0 q0, (.hdr 1) :: (.row true (.rSpan v30)) :: (dT 14 [])]
theorem l1011_38_t (cp : CP) (n : Nat) : ∀ (m : Nat) (q0 : SRecv) (v12 v13 : Int) (v14 : (List SSpan)) (k : KX R), loopN2 (XI cp n (y1011_5 cp n) i1011_11) m (fr1011_10 q0 v12 v13 v14) k = l1011_38 cp n m q0 v12 v13 v14 (fun v30 => k (.exit 0) (fr1011_37 q0 v30))
  | 0, _, _, _, _, _ => rfl
  | m + 1, q0, v12, v13, v14, k => (loopN2_succ (XI cp n (y1011_5 cp n) i1011_11) m (fr1011_10 q0 v12 v13 v14) k).trans ((s1011_36_t cp n q0 v12 v13 v14 (loopT (XI cp n (y1011_5 cp n) i1011_11) m k)).trans ((show s1011_36 cp n q0 v12 v13 v14 (fun v28 v29 => loopT (XI cp n (y1011_5 cp n) i1011_11) m k .norm (fr1011_35 q0 v12 v28 v29)) (loopT (XI cp n (y1011_5 cp n) i1011_11) m k (.exit 0) (fr1011_11 q0 v14)) = s1011_36 cp n q0 v12 v13 v14 (fun v28 v29 => loopN2 (XI cp n (y1011_5 cp n) i1011_11) m (fr1011_10 q0 v12 v28 v29) k) (k (.exit 0) (fr1011_37 q0 v14)) from by kernel_rfl).trans (congrArg (fun q => s1011_36 cp n q0 v12 v13 v14 q (k (.exit 0) (fr1011_37 q0 v14))) (funext fun v28 => funext fun v29 => l1011_38_t cp n m q0 v12 v28 v29 k))))
theorem s1011_39_t : XI cp n (y1011_5 cp n) i1011_12 (fr1011_8 p0 q0 v12) k = s1011_39 cp n p0 q0 v12 (fun v30 => k (.exit 0) (fr1011_37 q0 v30)) := (show XI cp n (y1011_5 cp n) i1011_12 (fr1011_8 p0 q0 v12) k = loopN2 (XI cp n (y1011_5 cp n) i1011_11) n (fr1011_10 q0 v12 0 p0) k from by kernel_rfl).trans (l1011_38_t cp n n q0 v12 0 p0 k)
def fr1011_40 : FF := [dc, dc, w1011_0 q0, (.hdr 1) :: (.row true (.rSpan v31)) :: (dT 14 [])]
theorem s1011_41_t : XI cp n (y1011_5 cp n) i1011_13 (fr1011_8 p0 q0 v12) k = s1011_41 cp n p0 q0 v12 (fun v31 => k .norm (fr1011_40 q0 v31)) := (show XI cp n (y1011_5 cp n) i1011_13 (fr1011_8 p0 q0 v12) k = XI cp n (y1011_5 cp n) i1011_12 (fr1011_8 p0 q0 v12) (blkT 0 k) from by kernel_rfl).trans ((s1011_39_t cp n p0 q0 v12 (blkT 0 k)).trans (by kernel_rfl))
def fr1011_42 : FF := [dc, dc, w1011_0 q0, (.hdr 1) :: (.row true (.rSpan v32)) :: (dT 14 [])]
def fr1011_44 : FF := [.yld :: (.ptr 32 0) :: (dT 14 []), dc, w1011_0 q0, w1011_1 p0]
theorem s1011_43_t : XI cp n (y1011_5 cp n) i1011_3 (fr1011_44 p0 q0) k = s1011_43 cp n p0 q0 (fun v32 => k .norm (fr1011_42 q0 v32)) := ((fun c => (show XI cp n (y1011_5 cp n) (.seq (.fin (.reg g1011_1000) [1, 5] []) c) (fr1011_44 p0 q0) k = s1011_7 cp n p0 q0 (fun v12 => XI cp n (y1011_5 cp n) c (fr1011_8 p0 q0 v12) k) from by kernel_rfl)) i1011_13).trans (congrArg (fun q => s1011_7 cp n p0 q0 q) (funext fun v12 => (s1011_41_t cp n p0 q0 v12 k).trans (show s1011_41 cp n p0 q0 v12 (fun v31 => k .norm (fr1011_40 q0 v31)) = s1011_41 cp n p0 q0 v12 (fun v31 => k .norm (fr1011_42 q0 v31)) from by kernel_rfl)))
def w1011_9 : Fr := dT 2 ((.ptr 48 0) :: (dT 13 []))
def fr1011_45 : FF := [w1011_9, dc, w1011_0 q0, (.hdr 1) :: (.row true (.rSpan v33)) :: (dT 14 [])]
theorem s1011_46_t : X cp n i1011_14 (fr1011_4 p0 q0) k = s1011_46 cp n p0 q0 (fun v33 => k .norm (fr1011_45 q0 v33)) := (show X cp n i1011_14 (fr1011_4 p0 q0) k = XI cp n (roundK2 2 [7] [32, 48, 53] (fr1011_4 p0 q0) (X cp n i1011_0) (X cp n i1011_1)) i1011_3 (fr1011_44 p0 q0) (rfnT 2 (fr1011_4 p0 q0) (clrT [6] [] k)) from rfn_eq (v := .clo 70 [(32, 0)]) (by kernel_rfl) (by kernel_rfl) (by kernel_rfl) _ _ _).trans ((congrArg (fun Y => XI cp n Y i1011_3 (fr1011_44 p0 q0) (rfnT 2 (fr1011_4 p0 q0) (clrT [6] [] k))) ((rnd_eq 2 [7] [32, 48, 53] (fr1011_4 p0 q0) i1011_0 i1011_1).trans (show rndT 2 [7] [32, 48, 53] (fr1011_4 p0 q0) (X cp n i1011_2) = (y1011_5 cp n) from by kernel_rfl))).trans ((s1011_43_t cp n p0 q0 (rfnT 2 (fr1011_4 p0 q0) (clrT [6] [] k))).trans (by kernel_rfl)))
def fr1011_47 : FF := [w1011_9, dc, w1011_0 q0, (.hdr 1) :: (.row true (.rSpan v34)) :: (dT 14 [])]
theorem s1011_48_t : X cp n i1011_15 (fr1011_4 p0 q0) k = s1011_48 cp n p0 q0 (fun v34 => k .norm (fr1011_47 q0 v34)) := (show X cp n i1011_15 (fr1011_4 p0 q0) k = X cp n i1011_14 (fr1011_4 p0 q0) (blkT 0 k) from by kernel_rfl).trans ((s1011_46_t cp n p0 q0 (blkT 0 k)).trans (by kernel_rfl))
def fr1011_49 : FF := [w1011_9, dc, w1011_0 q0, (.hdr 1) :: (.row true (.rSpan v35)) :: (dT 14 [])]
theorem s1011_50_t : X cp n i1011_16 (fr1011_2 p0 q0) k = s1011_50 cp n p0 q0 (fun v35 => k .norm (fr1011_49 q0 v35)) := ((fun c => (show X cp n (.seq (.fin (.reg g1011_1) [1] []) c) (fr1011_2 p0 q0) k = s1011_3 cp n p0 q0 (X cp n c (fr1011_4 p0 q0) k) from by kernel_rfl)) i1011_15).trans (congrArg (fun q => s1011_3 cp n p0 q0 q) ((s1011_48_t cp n p0 q0 k).trans (show s1011_48 cp n p0 q0 (fun v34 => k .norm (fr1011_47 q0 v34)) = s1011_48 cp n p0 q0 (fun v34 => k .norm (fr1011_49 q0 v34)) from by kernel_rfl)))
def fr1011_52 : FF := [dT 4 ((.row false (.rSpan v35)) :: (dT 11 [])), dc, w1011_0 q0, dc]
theorem s1011_51_t : X cp n i1011_17 (fr1011_49 q0 v35) k = s1011_51 cp n q0 v35 (k .ret (fr1011_52 q0 v35)) := by kernel_rfl
def fr1011_53 : FF := [dT 4 ((.row false (.rSpan v36)) :: (dT 11 [])), dc, w1011_0 q0, dc]
theorem s1011_54_t : X cp n i1011_18 (fr1011_2 p0 q0) k = s1011_54 cp n p0 q0 (fun v36 => k .ret (fr1011_53 q0 v36)) := (show X cp n i1011_18 (fr1011_2 p0 q0) k = X cp n i1011_16 (fr1011_2 p0 q0) (seqT (X cp n) i1011_17 k) from by kernel_rfl).trans ((show X cp n i1011_16 (fr1011_2 p0 q0) (seqT (X cp n) i1011_17 k) = s1011_50 cp n p0 q0 (fun v35 => X cp n i1011_17 (fr1011_49 q0 v35) k) from (s1011_50_t cp n p0 q0 (seqT (X cp n) i1011_17 k)).trans (by kernel_rfl)).trans (congrArg (fun q => s1011_50 cp n p0 q0 q) (funext fun v35 => (s1011_51_t cp n q0 v35 k).trans (show s1011_51 cp n q0 v35 (k .ret (fr1011_52 q0 v35)) = s1011_51 cp n q0 v35 (k .ret (fr1011_53 q0 v35)) from by kernel_rfl))))
def fr1011_55 : FF := [dT 4 ((.row false (.rSpan v37)) :: (dT 11 [])), dc, w1011_0 q0, dc]
def fr1011_57 : FF := [(.row true (.rSpan p0)) :: (.clo 70 [(32, 0)]) :: (dT 14 []), dc, w1011_0 q0, dc]
theorem s1011_56_t : X cp n i1011_19 (fr1011_57 p0 q0) k = s1011_56 cp n p0 q0 (fun v37 => k .ret (fr1011_55 q0 v37)) := ((fun c => (show X cp n (.seq (.fin (.reg g1011_0) [0, 4] []) c) (fr1011_57 p0 q0) k = s1011_1 cp n p0 q0 (X cp n c (fr1011_2 p0 q0) k) from by kernel_rfl)) i1011_18).trans (congrArg (fun q => s1011_1 cp n p0 q0 q) ((s1011_54_t cp n p0 q0 k).trans (show s1011_54 cp n p0 q0 (fun v36 => k .ret (fr1011_53 q0 v36)) = s1011_54 cp n p0 q0 (fun v36 => k .ret (fr1011_55 q0 v36)) from by kernel_rfl)))
theorem run1011 (cp : CP) (n : Nat) (p0 : (List SSpan)) (q0 : SRecv) (k : Ret2 RW → Option R) : G1011 cp (n + 1) p0 q0 (fun r0 r1 => k ⟨.row false (.rSpan r0), [(eRecv r1)], []⟩) = run2 U cp (callP cp n) n fn1011 [.row true (.rSpan p0), .clo 70 [(32, 0)]] [(eRecv q0)] k := ((X_run (f := fn1011) (av := [.row true (.rSpan p0), .clo 70 [(32, 0)]]) (cells := [(eRecv q0)]) (code := i1011_19) (fr := (fr1011_57 p0 q0)) (k := k) (by kernel_rfl) (fun K => by kernel_rfl)).trans ((s1011_56_t cp n p0 q0 (finK2 fn1011 k)).trans (by kernel_rfl))).symm
end
/-! slices.Collect[tideway/api.Span] -/
section
variable (cp : CP) (n : Nat) (k : KX R)
theorem run1010 (cp : CP) (n : Nat) (q0 : SRecv) (k : Ret2 RW → Option R) : G1010 cp (n + 1) q0 (fun r0 r1 => k ⟨.row false (.rSpan r0), [(eRecv r1)], []⟩) = run2 U cp (callP cp n) n fn1010 [.clo 70 [(5, 0)]] [(eRecv q0)] k := by kernel_rfl
end
/-! slices.Index[[]tideway/api.Span,tideway/api.Span] -/
section
variable (cp : CP) (n : Nat) (p0 : (List SSpan)) (p1 : SSpan) (v44 v45 v46 v47 v48 v49 v50 v51 : Int) (k : KX R)
def w72_0 : Fr := dT 3 ((.hdr 2) :: ((eSpan p1) ++ (dT 10 [])))
def fr72_2 : FF := [(.row false (.rSpan p0)) :: (dT 2 ((.ptr 19 0) :: (dT 12 []))), w72_0 p1]
def fr72_4 : FF := [(.row false (.rSpan p0)) :: (dT 2 ((.ptr 19 0) :: (dT 3 ((tL v44) :: (tL 0) :: (dT 7 []))))), w72_0 p1]
def fr72_6 : FF := [(.row false (.rSpan p0)) :: (dT 2 ((.ptr 19 0) :: (dT 3 ((tL v44) :: (tL v46) :: (dT 7 []))))), w72_0 p1]
def fr72_7 : FF := [dT 4 ((tL v45) :: (dT 11 [])), dc]
def fr72_8 : FF := [dc, dc]
def fr72_9 : FF := [(.row false (.rSpan p0)) :: (dT 2 ((.ptr 19 0) :: (dT 3 ((tL v44) :: (tL v45) :: (dT 7 []))))), w72_0 p1]
theorem s72_5_t : X cp n i72_0 (fr72_9 p0 p1 v44 v45) k = s72_5 cp n p0 p1 v44 v45 (fun v46 => k .norm (fr72_6 p0 p1 v44 v46)) (k .ret (fr72_7 v45)) (k (.exit 0) fr72_8) := by kernel_rfl
def fr72_10 : FF := [dT 4 ((tL v47) :: (dT 11 [])), dc]
theorem l72_11_t (cp : CP) (n : Nat) : ∀ (m : Nat) (p0 : (List SSpan)) (p1 : SSpan) (v44 v45 : Int) (k : KX R), loopN2 (X cp n i72_0) m (fr72_9 p0 p1 v44 v45) k = l72_11 cp n m p0 p1 v44 v45 (fun v47 => k .ret (fr72_10 v47)) (k (.exit 0) fr72_8)
  | 0, _, _, _, _, _ => rfl
  | m + 1, p0, p1, v44, v45, k => (loopN2_succ (X cp n i72_0) m (fr72_9 p0 p1 v44 v45) k).trans ((s72_5_t cp n p0 p1 v44 v45 (loopT (X cp n i72_0) m k)).trans ((show s72_5 cp n p0 p1 v44 v45 (fun v46 => loopT (X cp n i72_0) m k .norm (fr72_6 p0 p1 v44 v46)) (loopT (X cp n i72_0) m k .ret (fr72_7 v45)) (loopT (X cp n i72_0) m k (.exit 0) fr72_8) = s72_5 cp n p0 p1 v44 v45 (fun v46 => loopN2 (X cp n i72_0) m (fr72_9 p0 p1 v44 v46) k) (k .ret (fr72_10 v45)) (k (.exit 0) fr72_8) from by kernel_rfl).trans (congrArg (fun q => s72_5 cp n p0 p1 v44 v45 q (k .ret (fr72_10 v45)) (k (.exit 0) fr72_8)) (funext fun v46 => l72_11_t cp n m p0 p1 v44 v46 k))))
theorem s72_12_t : X cp n i72_1 (fr72_4 p0 p1 v44) k = s72_12 cp n p0 p1 v44 (fun v47 => k .ret (fr72_10 v47)) (k (.exit 0) fr72_8) := (show X cp n i72_1 (fr72_4 p0 p1 v44) k = loopN2 (X cp n i72_0) n (fr72_9 p0 p1 v44 0) k from by kernel_rfl).trans (l72_11_t cp n n p0 p1 v44 0 k)
def fr72_13 : FF := [dT 4 ((tL v48) :: (dT 11 [])), dc]
theorem s72_14_t : X cp n i72_2 (fr72_4 p0 p1 v44) k = s72_14 cp n p0 p1 v44 (k .norm fr72_8) (fun v48 => k .ret (fr72_13 v48)) := (show X cp n i72_2 (fr72_4 p0 p1 v44) k = X cp n i72_1 (fr72_4 p0 p1 v44) (blkT 0 k) from by kernel_rfl).trans ((s72_12_t cp n p0 p1 v44 (blkT 0 k)).trans (by kernel_rfl))
def fr72_15 : FF := [dT 4 ((tL v49) :: (dT 11 [])), dc]
theorem s72_16_t : X cp n i72_3 (fr72_2 p0 p1) k = s72_16 cp n p0 p1 (k .norm fr72_8) (fun v49 => k .ret (fr72_15 v49)) := ((fun c => (show X cp n (.seq (.fin (.reg g72_1) [6] []) c) (fr72_2 p0 p1) k = s72_3 cp n p0 p1 (fun v44 => X cp n c (fr72_4 p0 p1 v44) k) from by kernel_rfl)) i72_2).trans (congrArg (fun q => s72_3 cp n p0 p1 q) (funext fun v44 => (s72_14_t cp n p0 p1 v44 k).trans (show s72_14 cp n p0 p1 v44 (k .norm fr72_8) (fun v48 => k .ret (fr72_13 v48)) = s72_14 cp n p0 p1 v44 (k .norm fr72_8) (fun v48 => k .ret (fr72_15 v48)) from by kernel_rfl)))
def fr72_18 : FF := [dT 4 ((tL (-1)) :: (dT 11 [])), dc]
theorem s72_17_t : X cp n i72_4 fr72_8 k = s72_17 cp n (k .ret fr72_18) := by kernel_rfl
def fr72_19 : FF := [dT 4 ((tL v50) :: (dT 11 [])), dc]
theorem s72_20_t : X cp n i72_5 (fr72_2 p0 p1) k = s72_20 cp n p0 p1 (fun v50 => k .ret (fr72_19 v50)) := (show X cp n i72_5 (fr72_2 p0 p1) k = X cp n i72_3 (fr72_2 p0 p1) (seqT (X cp n) i72_4 k) from by kernel_rfl).trans ((show X cp n i72_3 (fr72_2 p0 p1) (seqT (X cp n) i72_4 k) = s72_16 cp n p0 p1 (X cp n i72_4 fr72_8 k) (fun v49 => k .ret (fr72_19 v49)) from (s72_16_t cp n p0 p1 (seqT (X cp n) i72_4 k)).trans (by kernel_rfl)).trans (congrArg (fun q => s72_16 cp n p0 p1 q (fun v49 => k .ret (fr72_19 v49))) ((s72_17_t cp n  k).trans (show s72_17 cp n (k .ret fr72_18) = s72_17 cp n (k .ret (fr72_19 (-1))) from by kernel_rfl))))
def fr72_21 : FF := [dT 4 ((tL v51) :: (dT 11 [])), dc]
def fr72_23 : FF := [(.row false (.rSpan p0)) :: (.agg (eSpan p1)) :: (dT 14 []), dc]
theorem s72_22_t : X cp n i72_6 (fr72_23 p0 p1) k = s72_22 cp n p0 p1 (fun v51 => k .ret (fr72_21 v51)) := ((fun c => (show X cp n (.seq (.fin (.reg g72_0) [1, 4] []) c) (fr72_23 p0 p1) k = s72_1 cp n p0 p1 (X cp n c (fr72_2 p0 p1) k) from by kernel_rfl)) i72_5).trans (congrArg (fun q => s72_1 cp n p0 p1 q) ((s72_20_t cp n p0 p1 k).trans (show s72_20 cp n p0 p1 (fun v50 => k .ret (fr72_19 v50)) = s72_20 cp n p0 p1 (fun v50 => k .ret (fr72_21 v50)) from by kernel_rfl)))
theorem run72 (cp : CP) (n : Nat) (p0 : (List SSpan)) (p1 : SSpan) (k : Ret2 RW → Option R) : G72 cp (n + 1) p0 p1 (fun r0 => k ⟨(tL r0), [], []⟩) = run2 U cp (callP cp n) n fn72 [.row false (.rSpan p0), .agg (eSpan p1)] [] k := ((X_run (f := fn72) (av := [.row false (.rSpan p0), .agg (eSpan p1)]) (cells := []) (code := i72_6) (fr := (fr72_23 p0 p1)) (k := k) (by kernel_rfl) (fun K => by kernel_rfl)).trans ((s72_22_t cp n p0 p1 (finK2 fn72 k)).trans (by kernel_rfl))).symm
end
/-! slices.Contains[[]tideway/api.Span,tideway/api.Span] -/
section
variable (cp : CP) (n : Nat) (k : KX R)
theorem run56 (cp : CP) (n : Nat) (p0 : (List SSpan)) (p1 : SSpan) (k : Ret2 RW → Option R) : G56 cp (n + 1) p0 p1 (fun r0 => k ⟨(tB r0), [], []⟩) = run2 U cp (callP cp n) n fn56 [.row false (.rSpan p0), .agg (eSpan p1)] [] k := by kernel_rfl
end
/-! tideway/recv.pieces -/
section
variable (cp : CP) (n : Nat) (p0 : SRecv) (v5 v6 v7 v9 v10 : Int) (v42 : (List SSpan)) (v43 v44 v47 : Int) (v48 v49 v50 v51 : Bool) (k : KX R)
def w28_0 : Fr := dT 2 ((.hdr 15) :: (sl 0 13 (eRecv p0)))
def w28_1 : Fr := sl 13 2 (eRecv p0) ++ (dT 14 [])
def fr28_2 : FF := [dT 1 ((.ptr 82 0) :: (dT 1 ((tL p0.xNext) :: (dT 12 [])))), dc, dc, dc, dc, w28_0 p0, w28_1 p0, dc]
def fr28_4 : FF := [dT 1 ((.ptr 82 0) :: (dT 1 ((tL p0.xNext) :: (dT 9 ([.row false (.rPiece p0.xLate), (tL v5), (tL 0)]))))), dc, dc, dc, dc, w28_0 p0, w28_1 p0, dc]
def fr28_6 : FF := [dT 1 ((.ptr 82 0) :: (dT 1 ((tL v9) :: (dT 9 ([.row false (.rPiece p0.xLate), (tL v5), (tL v10)]))))), dc, dc, dc, dc, w28_0 p0, w28_1 p0, dc]
def fr28_7 : FF := [dT 2 ((tB false) :: (dT 13 [])), dc, dc, dc, dc, dc, dc, dc]
def fr28_8 : FF := [dT 1 ((.ptr 82 0) :: (dT 14 [])), dc, dc, dc, dc, w28_0 p0, w28_1 p0, dc]
def fr28_9 : FF := [dT 1 ((.ptr 82 0) :: (dT 1 ((tL v6) :: (dT 9 ([.row false (.rPiece p0.xLate), (tL v5), (tL v7)]))))), dc, dc, dc, dc, w28_0 p0, w28_1 p0, dc]
theorem s28_5_t : X cp n i28_0 (fr28_9 p0 v5 v6 v7) k = s28_5 cp n p0 v5 v6 v7 (fun v9 v10 => k .norm (fr28_6 p0 v5 v9 v10)) (k .ret fr28_7) (k (.exit 0) (fr28_8 p0)) := by kernel_rfl
theorem l28_10_t (cp : CP) (n : Nat) : ∀ (m : Nat) (p0 : SRecv) (v5 v6 v7 : Int) (k : KX R), loopN2 (X cp n i28_0) m (fr28_9 p0 v5 v6 v7) k = l28_10 cp n m p0 v5 v6 v7 (k .ret fr28_7) (k (.exit 0) (fr28_8 p0))
  | 0, _, _, _, _, _ => rfl
  | m + 1, p0, v5, v6, v7, k => (loopN2_succ (X cp n i28_0) m (fr28_9 p0 v5 v6 v7) k).trans ((s28_5_t cp n p0 v5 v6 v7 (loopT (X cp n i28_0) m k)).trans ((show s28_5 cp n p0 v5 v6 v7 (fun v9 v10 => loopT (X cp n i28_0) m k .norm (fr28_6 p0 v5 v9 v10)) (loopT (X cp n i28_0) m k .ret fr28_7) (loopT (X cp n i28_0) m k (.exit 0) (fr28_8 p0)) = s28_5 cp n p0 v5 v6 v7 (fun v9 v10 => loopN2 (X cp n i28_0) m (fr28_9 p0 v5 v9 v10) k) (k .ret fr28_7) (k (.exit 0) (fr28_8 p0)) from by kernel_rfl).trans (congrArg (fun q => s28_5 cp n p0 v5 v6 v7 q (k .ret fr28_7) (k (.exit 0) (fr28_8 p0))) (funext fun v9 => funext fun v10 => l28_10_t cp n m p0 v5 v9 v10 k))))
theorem s28_11_t : X cp n i28_1 (fr28_4 p0 v5) k = s28_11 cp n p0 v5 (k .ret fr28_7) (k (.exit 0) (fr28_8 p0)) := (show X cp n i28_1 (fr28_4 p0 v5) k = loopN2 (X cp n i28_0) n (fr28_9 p0 v5 p0.xNext 0) k from by kernel_rfl).trans (l28_10_t cp n n p0 v5 p0.xNext 0 k)
theorem s28_12_t : X cp n i28_2 (fr28_4 p0 v5) k = s28_12 cp n p0 v5 (k .norm (fr28_8 p0)) (k .ret fr28_7) := (show X cp n i28_2 (fr28_4 p0 v5) k = X cp n i28_1 (fr28_4 p0 v5) (blkT 0 k) from by kernel_rfl).trans ((s28_11_t cp n p0 v5 (blkT 0 k)).trans (by kernel_rfl))
theorem s28_13_t : X cp n i28_3 (fr28_2 p0) k = s28_13 cp n p0 (k .norm (fr28_8 p0)) (k .ret fr28_7) := ((fun c => (show X cp n (.seq (.fin (.reg g28_2) [12] []) c) (fr28_2 p0) k = s28_3 cp n p0 (fun v5 => X cp n c (fr28_4 p0 v5) k) from by kernel_rfl)) i28_2).trans (congrArg (fun q => s28_3 cp n p0 q) (funext fun v5 => s28_12_t cp n p0 v5 k))
def w28_2 : Fr := dT 1 ((.ptr 82 0) :: (dT 5 ((.row false (.rSpan v42)) :: (dT 8 []))))
def fr28_15 : FF := [w28_2 v42, dc, dc, dc, dc, w28_0 p0, w28_1 p0, dc]
def w28_3 : Fr := dT 14 ([.row false (.rSpan p0.xFirst), (tL v43)])
def fr28_17 : FF := [w28_2 v42, dc, dc, w28_3 p0 v43, (tL 0) :: (dT 15 []), w28_0 p0, w28_1 p0, dc]
def fr28_19 : FF := [w28_2 v42, dc, dc, w28_3 p0 v43, (tL v47) :: (dT 15 []), w28_0 p0, w28_1 p0, dc]
def fr28_20 : FF := [dc, dc, dc, dc, dc, dc, dc, dc]
def fr28_21 : FF := [w28_2 v42, dc, dc, w28_3 p0 v43, (tL v44) :: (dT 15 []), w28_0 p0, w28_1 p0, dc]
theorem s28_18_t : X cp n i28_4 (fr28_21 p0 v42 v43 v44) k = s28_18 cp n p0 v42 v43 v44 (fun v47 => k .norm (fr28_19 p0 v42 v43 v47)) (k .ret fr28_7) (k (.exit 2) fr28_20) := by kernel_rfl
theorem l28_22_t (cp : CP) (n : Nat) : ∀ (m : Nat) (p0 : SRecv) (v42 : (List SSpan)) (v43 v44 : Int) (k : KX R), loopN2 (X cp n i28_4) m (fr28_21 p0 v42 v43 v44) k = l28_22 cp n m p0 v42 v43 v44 (k .ret fr28_7) (k (.exit 2) fr28_20)
  | 0, _, _, _, _, _ => rfl
  | m + 1, p0, v42, v43, v44, k => (loopN2_succ (X cp n i28_4) m (fr28_21 p0 v42 v43 v44) k).trans ((s28_18_t cp n p0 v42 v43 v44 (loopT (X cp n i28_4) m k)).trans ((show s28_18 cp n p0 v42 v43 v44 (fun v47 => loopT (X cp n i28_4) m k .norm (fr28_19 p0 v42 v43 v47)) (loopT (X cp n i28_4) m k .ret fr28_7) (loopT (X cp n i28_4) m k (.exit 2) fr28_20) = s28_18 cp n p0 v42 v43 v44 (fun v47 => loopN2 (X cp n i28_4) m (fr28_21 p0 v42 v43 v47) k) (k .ret fr28_7) (k (.exit 2) fr28_20) from by kernel_rfl).trans (congrArg (fun q => s28_18 cp n p0 v42 v43 v44 q (k .ret fr28_7) (k (.exit 2) fr28_20)) (funext fun v47 => l28_22_t cp n m p0 v42 v43 v47 k))))
theorem s28_23_t : X cp n i28_5 (fr28_17 p0 v42 v43) k = s28_23 cp n p0 v42 v43 (k .ret fr28_7) (k (.exit 2) fr28_20) := (show X cp n i28_5 (fr28_17 p0 v42 v43) k = loopN2 (X cp n i28_4) n (fr28_21 p0 v42 v43 0) k from by kernel_rfl).trans (l28_22_t cp n n p0 v42 v43 0 k)
theorem s28_24_t : X cp n i28_6 (fr28_17 p0 v42 v43) k = s28_24 cp n p0 v42 v43 (k .norm fr28_20) (k .ret fr28_7) := (show X cp n i28_6 (fr28_17 p0 v42 v43) k = X cp n i28_5 (fr28_17 p0 v42 v43) (blkT 2 k) from by kernel_rfl).trans ((s28_23_t cp n p0 v42 v43 (blkT 2 k)).trans (by kernel_rfl))
theorem s28_25_t : X cp n i28_7 (fr28_15 p0 v42) k = s28_25 cp n p0 v42 (k .norm fr28_20) (k .ret fr28_7) := ((fun c => (show X cp n (.seq (.fin (.reg g28_11) [61] []) c) (fr28_15 p0 v42) k = s28_16 cp n p0 v42 (fun v43 => X cp n c (fr28_17 p0 v42 v43) k) from by kernel_rfl)) i28_6).trans (congrArg (fun q => s28_16 cp n p0 v42 q) (funext fun v43 => s28_24_t cp n p0 v42 v43 k))
def fr28_27 : FF := [dT 2 ((tB true) :: (dT 13 [])), dc, dc, dc, dc, dc, dc, dc]
theorem s28_26_t : X cp n i28_8 fr28_20 k = s28_26 cp n (k .ret fr28_27) := by kernel_rfl
def fr28_28 : FF := [dT 2 ((tB v48) :: (dT 13 [])), dc, dc, dc, dc, dc, dc, dc]
theorem s28_29_t : X cp n i28_9 (fr28_15 p0 v42) k = s28_29 cp n p0 v42 (fun v48 => k .ret (fr28_28 v48)) := (show X cp n i28_9 (fr28_15 p0 v42) k = X cp n i28_7 (fr28_15 p0 v42) (seqT (X cp n) i28_8 k) from by kernel_rfl).trans ((show X cp n i28_7 (fr28_15 p0 v42) (seqT (X cp n) i28_8 k) = s28_25 cp n p0 v42 (X cp n i28_8 fr28_20 k) (k .ret (fr28_28 false)) from (s28_25_t cp n p0 v42 (seqT (X cp n) i28_8 k)).trans (by kernel_rfl)).trans (congrArg (fun q => s28_25 cp n p0 v42 q (k .ret (fr28_28 false))) ((s28_26_t cp n  k).trans (show s28_26 cp n (k .ret fr28_27) = s28_26 cp n (k .ret (fr28_28 true)) from by kernel_rfl))))
def fr28_30 : FF := [dT 2 ((tB v49) :: (dT 13 [])), dc, dc, dc, dc, dc, dc, dc]
theorem s28_31_t : X cp n i28_10 (fr28_8 p0) k = s28_31 cp n p0 (fun v49 => k .ret (fr28_30 v49)) := ((fun c => (show X cp n (.seq (.fin (.reg g28_10) [58, 59, 60] [(104, 15)]) c) (fr28_8 p0) k = s28_14 cp n p0 (fun v42 => X cp n c (fr28_15 p0 v42) k) from by kernel_rfl)) i28_9).trans (congrArg (fun q => s28_14 cp n p0 q) (funext fun v42 => (s28_29_t cp n p0 v42 k).trans (show s28_29 cp n p0 v42 (fun v48 => k .ret (fr28_28 v48)) = s28_29 cp n p0 v42 (fun v48 => k .ret (fr28_30 v48)) from by kernel_rfl)))
def fr28_32 : FF := [dT 2 ((tB v50) :: (dT 13 [])), dc, dc, dc, dc, dc, dc, dc]
theorem s28_33_t : X cp n i28_11 (fr28_2 p0) k = s28_33 cp n p0 (fun v50 => k .ret (fr28_32 v50)) := (show X cp n i28_11 (fr28_2 p0) k = X cp n i28_3 (fr28_2 p0) (seqT (X cp n) i28_10 k) from by kernel_rfl).trans ((show X cp n i28_3 (fr28_2 p0) (seqT (X cp n) i28_10 k) = s28_13 cp n p0 (X cp n i28_10 (fr28_8 p0) k) (k .ret (fr28_32 false)) from (s28_13_t cp n p0 (seqT (X cp n) i28_10 k)).trans (by kernel_rfl)).trans (congrArg (fun q => s28_13 cp n p0 q (k .ret (fr28_32 false))) ((s28_31_t cp n p0 k).trans (show s28_31 cp n p0 (fun v49 => k .ret (fr28_30 v49)) = s28_31 cp n p0 (fun v49 => k .ret (fr28_32 v49)) from by kernel_rfl))))
def fr28_34 : FF := [dT 2 ((tB v51) :: (dT 13 [])), dc, dc, dc, dc, dc, dc, dc]
def fr28_36 : FF := [(.agg (eRecv p0)) :: (dT 15 []), dc, dc, dc, dc, dc, dc, dc]
theorem s28_35_t : X cp n i28_12 (fr28_36 p0) k = s28_35 cp n p0 (fun v51 => k .ret (fr28_34 v51)) := ((fun c => (show X cp n (.seq (.fin (.reg g28_0) [0, 2] []) (.seq (.fin (.reg g28_1) [10, 11] []) c)) (fr28_36 p0) k = s28_1 cp n p0 (X cp n c (fr28_2 p0) k) from by kernel_rfl)) i28_11).trans (congrArg (fun q => s28_1 cp n p0 q) ((s28_33_t cp n p0 k).trans (show s28_33 cp n p0 (fun v50 => k .ret (fr28_32 v50)) = s28_33 cp n p0 (fun v50 => k .ret (fr28_34 v50)) from by kernel_rfl)))
theorem run28 (cp : CP) (n : Nat) (p0 : SRecv) (k : Ret2 RW → Option R) : G28 cp (n + 1) p0 (fun r0 => k ⟨(tB r0), [], []⟩) = run2 U cp (callP cp n) n fn28 [.agg (eRecv p0)] [] k := ((X_run (f := fn28) (av := [.agg (eRecv p0)]) (cells := []) (code := i28_12) (fr := (fr28_36 p0)) (k := k) (by kernel_rfl) (fun K => by kernel_rfl)).trans ((s28_35_t cp n p0 (finK2 fn28 k)).trans (by kernel_rfl))).symm
end
/-! tideway/recv.Check -/
section
variable (cp : CP) (n : Nat) (p0 : SRecv) (v6 v7 v8 : Int) (k : KX R)
def fr10_2 : FF := [dT 1 ((.ptr 102 0) :: (dT 14 [])), dc, dc, dc, dc, dc, dT 6 ((.hdr 15) :: (sl 0 9 (eRecv p0))), sl 9 6 (eRecv p0) ++ (dT 10 [])]
def fr10_4 : FF := [dT 2 ((tL 230) :: (dT 13 [])), dc, dc, dc, dc, dc, dc, dc]
def fr10_6 : FF := [dT 2 ((tL v6) :: (dT 13 [])), dc, dc, dc, dc, dc, dc, dc]
theorem s10_5_t : X cp n i10_0 (fr10_2 p0) k = s10_5 cp n p0 (fun v6 => k .ret (fr10_6 v6)) := by kernel_rfl
def fr10_7 : FF := [dT 2 ((tL v7) :: (dT 13 [])), dc, dc, dc, dc, dc, dc, dc]
theorem s10_8_t : X cp n i10_1 (fr10_2 p0) k = s10_8 cp n p0 (fun v7 => k .ret (fr10_7 v7)) := ((fun c => (show X cp n (.seq (.fin (.reg g10_1) [4, 5, 6, 7, 8, 9, 10, 11, 12, 13, 14, 15, 16, 17, 18, 19, 20, 21, 22, 23, 24, 25, 26, 27, 28, 29, 30, 31, 32, 33, 34, 35, 36, 37, 38, 39, 40, 41, 42] []) (.seq (.seq (.fin (.reg g10_2) [3, 43, 44, 45, 46, 47, 48, 49, 50, 51, 52, 53, 54, 55, 56, 57, 58, 59, 60, 61, 62, 63, 64, 65, 66, 67, 68, 69, 70, 71, 72, 73, 74, 75, 76, 77] []) (.fin (.cond (.s 78) (.seq (.fin (.reg g10_3) [1, 78] [(102, 15)]) (.ret)) (.skip)) [78] [])) c)) (fr10_2 p0) k = s10_3 cp n p0 (X cp n c (fr10_2 p0) k) (k .ret (fr10_7 230)) from by kernel_rfl)) i10_0).trans (congrArg (fun q => s10_3 cp n p0 q (k .ret (fr10_7 230))) ((s10_5_t cp n p0 k).trans (show s10_5 cp n p0 (fun v6 => k .ret (fr10_6 v6)) = s10_5 cp n p0 (fun v6 => k .ret (fr10_7 v6)) from by kernel_rfl)))
def fr10_9 : FF := [dT 2 ((tL v8) :: (dT 13 [])), dc, dc, dc, dc, dc, dc, dc]
def fr10_11 : FF := [(.agg (eRecv p0)) :: (dT 15 []), dc, dc, dc, dc, dc, dc, dc]
theorem s10_10_t : X cp n i10_2 (fr10_11 p0) k = s10_10 cp n p0 (fun v8 => k .ret (fr10_9 v8)) := ((fun c => (show X cp n (.seq (.fin (.reg g10_0) [0, 2] []) c) (fr10_11 p0) k = s10_1 cp n p0 (X cp n c (fr10_2 p0) k) from by kernel_rfl)) i10_1).trans (congrArg (fun q => s10_1 cp n p0 q) ((s10_8_t cp n p0 k).trans (show s10_8 cp n p0 (fun v7 => k .ret (fr10_7 v7)) = s10_8 cp n p0 (fun v7 => k .ret (fr10_9 v7)) from by kernel_rfl)))
theorem run10 (cp : CP) (n : Nat) (p0 : SRecv) (k : Ret2 RW → Option R) : G10 cp (n + 1) p0 (fun r0 => k ⟨(tL r0), [], []⟩) = run2 U cp (callP cp n) n fn10 [.agg (eRecv p0)] [] k := ((X_run (f := fn10) (av := [.agg (eRecv p0)]) (cells := []) (code := i10_2) (fr := (fr10_11 p0)) (k := k) (by kernel_rfl) (fun K => by kernel_rfl)).trans ((s10_10_t cp n p0 (finK2 fn10 k)).trans (by kernel_rfl))).symm
end
/-! tideway/recv.copied -/
section
variable (cp : CP) (n : Nat) (p0 : SRecv) (v13 : (List Int)) (v14 : (List SSpan)) (v15 v16 : Int) (v17 : (List SPiece)) (v19 : Int) (v20 v21 v22 v23 v24 : (List SPiece)) (v25 : SRecv) (k : KX R)
def w29_0 : Fr := dT 5 ([.hdr 15, (tL p0.xNext), .row true (.ruint8 v13), .row true (.rPiece []), (tL p0.xCap), (tL p0.xShift), (tL p0.xEdge), (tI .u32 p0.xRecent), (tB p0.xStamps), (tB p0.xSacks), (tL p0.xFin)])
def w29_1 : Fr := [(tB p0.xDone), .row true (.rSpan v14), (tI .u32 p0.xIrs), (tI .u32 p0.xOwn), (tB p0.xStamp), .hdr 15, (tL 0), .row true (.ruint8 []), .row true (.rPiece []), (tL 0), (tL 0), (tL 0), (tI .u32 0), (tB false), (tB false), (tL 0)]
def w29_2 : Fr := (tB false) :: (.row true (.rSpan [])) :: (tI .u32 0) :: (tI .u32 0) :: (tB false) :: (dT 11 [])
def fr29_2 : FF := [dT 1 ((.ptr 37 0) :: (.ptr 53 0) :: (.row false (.rPiece p0.xLate)) :: (dT 12 [])), dc, w29_0 p0 v13, w29_1 p0 v14, w29_2]
def w29_3 : Fr := dT 1 ((.ptr 37 0) :: (.ptr 53 0) :: (dT 13 []))
def fr29_4 : FF := [w29_3, dT 2 ((.row false (.rPiece p0.xLate)) :: (tL v15) :: (tL 0) :: (dT 11 [])), w29_0 p0 v13, w29_1 p0 v14, w29_2]
def fr29_6 : FF := [w29_3, dT 2 ((.row false (.rPiece p0.xLate)) :: (tL v15) :: (tL v19) :: (dT 11 [])), dT 5 ([.hdr 15, (tL p0.xNext), .row true (.ruint8 v13), .row true (.rPiece v20), (tL p0.xCap), (tL p0.xShift), (tL p0.xEdge), (tI .u32 p0.xRecent), (tB p0.xStamps), (tB p0.xSacks), (tL p0.xFin)]), w29_1 p0 v14, w29_2]
def w29_4 : Fr := dT 5 ([.hdr 15, (tL p0.xNext), .row true (.ruint8 v13), .row true (.rPiece v17), (tL p0.xCap), (tL p0.xShift), (tL p0.xEdge), (tI .u32 p0.xRecent), (tB p0.xStamps), (tB p0.xSacks), (tL p0.xFin)])
def fr29_7 : FF := [w29_3, dc, w29_4 p0 v13 v17, w29_1 p0 v14, w29_2]
def fr29_8 : FF := [w29_3, dT 2 ((.row false (.rPiece p0.xLate)) :: (tL v15) :: (tL v16) :: (dT 11 [])), w29_4 p0 v13 v17, w29_1 p0 v14, w29_2]
theorem s29_5_t : X cp n i29_0 (fr29_8 p0 v13 v14 v15 v16 v17) k = s29_5 cp n p0 v13 v14 v15 v16 v17 (fun v19 v20 => k .norm (fr29_6 p0 v13 v14 v15 v19 v20)) (k (.exit 0) (fr29_7 p0 v13 v14 v17)) := by kernel_rfl
def fr29_9 : FF := [w29_3, dc, dT 5 ([.hdr 15, (tL p0.xNext), .row true (.ruint8 v13), .row true (.rPiece v21), (tL p0.xCap), (tL p0.xShift), (tL p0.xEdge), (tI .u32 p0.xRecent), (tB p0.xStamps), (tB p0.xSacks), (tL p0.xFin)]), w29_1 p0 v14, w29_2]
theorem l29_10_t (cp : CP) (n : Nat) : ∀ (m : Nat) (p0 : SRecv) (v13 : (List Int)) (v14 : (List SSpan)) (v15 v16 : Int) (v17 : (List SPiece)) (k : KX R), loopN2 (X cp n i29_0) m (fr29_8 p0 v13 v14 v15 v16 v17) k = l29_10 cp n m p0 v13 v14 v15 v16 v17 (fun v21 => k (.exit 0) (fr29_9 p0 v13 v14 v21))
  | 0, _, _, _, _, _, _, _ => rfl
  | m + 1, p0, v13, v14, v15, v16, v17, k => (loopN2_succ (X cp n i29_0) m (fr29_8 p0 v13 v14 v15 v16 v17) k).trans ((s29_5_t cp n p0 v13 v14 v15 v16 v17 (loopT (X cp n i29_0) m k)).trans ((show s29_5 cp n p0 v13 v14 v15 v16 v17 (fun v19 v20 => loopT (X cp n i29_0) m k .norm (fr29_6 p0 v13 v14 v15 v19 v20)) (loopT (X cp n i29_0) m k (.exit 0) (fr29_7 p0 v13 v14 v17)) = s29_5 cp n p0 v13 v14 v15 v16 v17 (fun v19 v20 => loopN2 (X cp n i29_0) m (fr29_8 p0 v13 v14 v15 v19 v20) k) (k (.exit 0) (fr29_9 p0 v13 v14 v17)) from by kernel_rfl).trans (congrArg (fun q => s29_5 cp n p0 v13 v14 v15 v16 v17 q (k (.exit 0) (fr29_9 p0 v13 v14 v17))) (funext fun v19 => funext fun v20 => l29_10_t cp n m p0 v13 v14 v15 v19 v20 k))))
theorem s29_11_t : X cp n i29_1 (fr29_4 p0 v13 v14 v15) k = s29_11 cp n p0 v13 v14 v15 (fun v21 => k (.exit 0) (fr29_9 p0 v13 v14 v21)) := (show X cp n i29_1 (fr29_4 p0 v13 v14 v15) k = loopN2 (X cp n i29_0) n (fr29_8 p0 v13 v14 v15 0 []) k from by kernel_rfl).trans (l29_10_t cp n n p0 v13 v14 v15 0 [] k)
def fr29_12 : FF := [w29_3, dc, dT 5 ([.hdr 15, (tL p0.xNext), .row true (.ruint8 v13), .row true (.rPiece v22), (tL p0.xCap), (tL p0.xShift), (tL p0.xEdge), (tI .u32 p0.xRecent), (tB p0.xStamps), (tB p0.xSacks), (tL p0.xFin)]), w29_1 p0 v14, w29_2]
theorem s29_13_t : X cp n i29_2 (fr29_4 p0 v13 v14 v15) k = s29_13 cp n p0 v13 v14 v15 (fun v22 => k .norm (fr29_12 p0 v13 v14 v22)) := (show X cp n i29_2 (fr29_4 p0 v13 v14 v15) k = X cp n i29_1 (fr29_4 p0 v13 v14 v15) (blkT 0 k) from by kernel_rfl).trans ((s29_11_t cp n p0 v13 v14 v15 (blkT 0 k)).trans (by kernel_rfl))
def w29_5 : Fr := dT 5 ([.hdr 15, (tL p0.xNext), .row true (.ruint8 v13), .row true (.rPiece v23), (tL p0.xCap), (tL p0.xShift), (tL p0.xEdge), (tI .u32 p0.xRecent), (tB p0.xStamps), (tB p0.xSacks), (tL p0.xFin)])
def fr29_14 : FF := [w29_3, dc, w29_5 p0 v13 v23, w29_1 p0 v14, w29_2]
theorem s29_15_t : X cp n i29_3 (fr29_2 p0 v13 v14) k = s29_15 cp n p0 v13 v14 (fun v23 => k .norm (fr29_14 p0 v13 v14 v23)) := ((fun c => (show X cp n (.seq (.fin (.reg g29_5) [3] []) c) (fr29_2 p0 v13 v14) k = s29_3 cp n p0 v13 v14 (fun v15 => X cp n c (fr29_4 p0 v13 v14 v15) k) from by kernel_rfl)) i29_2).trans (congrArg (fun q => s29_3 cp n p0 v13 v14 q) (funext fun v15 => (s29_13_t cp n p0 v13 v14 v15 k).trans (show s29_13 cp n p0 v13 v14 v15 (fun v22 => k .norm (fr29_12 p0 v13 v14 v22)) = s29_13 cp n p0 v13 v14 v15 (fun v22 => k .norm (fr29_14 p0 v13 v14 v22)) from by kernel_rfl)))
def w29_6 : Fr := dT 2 ((.ptr 53 0) :: (dT 13 []))
def w29_7 : Fr := (tB p0.xDone) :: (.row true (.rSpan v14)) :: (tI .u32 p0.xIrs) :: (tI .u32 p0.xOwn) :: (tB p0.xStamp) :: (dT 11 [])
def fr29_17 : FF := [w29_6, dc, dc, w29_5 p0 v13 v23, w29_7 p0 v14]
theorem s29_16_t : X cp n i29_4 (fr29_14 p0 v13 v14 v23) k = s29_16 cp n p0 v13 v14 v23 (k .ret (fr29_17 p0 v13 v14 v23)) := by kernel_rfl
def fr29_18 : FF := [w29_6, dc, dc, dT 5 ([.hdr 15, (tL p0.xNext), .row true (.ruint8 v13), .row true (.rPiece v24), (tL p0.xCap), (tL p0.xShift), (tL p0.xEdge), (tI .u32 p0.xRecent), (tB p0.xStamps), (tB p0.xSacks), (tL p0.xFin)]), w29_7 p0 v14]
theorem s29_19_t : X cp n i29_5 (fr29_2 p0 v13 v14) k = s29_19 cp n p0 v13 v14 (fun v24 => k .ret (fr29_18 p0 v13 v14 v24)) := (show X cp n i29_5 (fr29_2 p0 v13 v14) k = X cp n i29_3 (fr29_2 p0 v13 v14) (seqT (X cp n) i29_4 k) from by kernel_rfl).trans ((show X cp n i29_3 (fr29_2 p0 v13 v14) (seqT (X cp n) i29_4 k) = s29_15 cp n p0 v13 v14 (fun v23 => X cp n i29_4 (fr29_14 p0 v13 v14 v23) k) from (s29_15_t cp n p0 v13 v14 (seqT (X cp n) i29_4 k)).trans (by kernel_rfl)).trans (congrArg (fun q => s29_15 cp n p0 v13 v14 q) (funext fun v23 => (s29_16_t cp n p0 v13 v14 v23 k).trans (show s29_16 cp n p0 v13 v14 v23 (k .ret (fr29_17 p0 v13 v14 v23)) = s29_16 cp n p0 v13 v14 v23 (k .ret (fr29_18 p0 v13 v14 v23)) from by kernel_rfl))))
def fr29_20 : FF := [w29_6, dc, dc, dT 5 ((.hdr 15) :: (sl 0 10 (eRecvt v25))), sl 10 5 (eRecvt v25) ++ (dT 11 [])]
def fr29_22 : FF := [(.agg (eRecv p0)) :: (dT 15 []), dc, dc, dc, dc]
theorem s29_21_t : X cp n i29_6 (fr29_22 p0) k = s29_21 cp n p0 (fun v25 => k .ret (fr29_20 v25)) := ((fun c => (show X cp n (.seq (.fin (.reg g29_0) [0] []) (.seq (.fin (.reg g29_1) [6, 7, 8, 9, 10] []) (.seq (.fin (.reg g29_2) [11, 12, 13, 14] []) (.seq (.fin (.reg g29_3) [15, 16] []) (.seq (.fin (.reg g29_4) [17] []) c))))) (fr29_22 p0) k = s29_1 cp n p0 (fun v13 v14 => X cp n c (fr29_2 p0 v13 v14) k) from by kernel_rfl)) i29_5).trans (congrArg (fun q => s29_1 cp n p0 q) (funext fun v13 => funext fun v14 => (s29_19_t cp n p0 v13 v14 k).trans (show s29_19 cp n p0 v13 v14 (fun v24 => k .ret (fr29_18 p0 v13 v14 v24)) = s29_19 cp n p0 v13 v14 (fun v24 => k .ret (fr29_20 (SRecv.mk p0.xNext v13 v24 p0.xCap p0.xShift p0.xEdge p0.xRecent p0.xStamps p0.xSacks p0.xFin p0.xDone v14 p0.xIrs p0.xOwn p0.xStamp))) from by kernel_rfl)))
theorem run29 (cp : CP) (n : Nat) (p0 : SRecv) (k : Ret2 RW → Option R) : G29 cp (n + 1) p0 (fun r0 => k ⟨.agg (eRecvt r0), [], []⟩) = run2 U cp (callP cp n) n fn29 [.agg (eRecv p0)] [] k := ((X_run (f := fn29) (av := [.agg (eRecv p0)]) (cells := []) (code := i29_6) (fr := (fr29_22 p0)) (k := k) (by kernel_rfl) (fun K => by kernel_rfl)).trans ((s29_21_t cp n p0 (finK2 fn29 k)).trans (by kernel_rfl))).symm
end
/-! tideway/seq.Diff -/
section
variable (cp : CP) (n : Nat) (k : KX R)
theorem run31 (cp : CP) (n : Nat) (p0 p1 : Int) (k : Ret2 RW → Option R) : G31 cp (n + 1) p0 p1 (fun r0 => k ⟨(tL r0), [], []⟩) = run2 U cp (callP cp n) n fn31 [(tI .u32 p0), (tI .u32 p1)] [] k := by kernel_rfl
end
/-! tideway/seq.Sum -/
section
variable (cp : CP) (n : Nat) (k : KX R)
theorem run58 (cp : CP) (n : Nat) (p0 p1 : Int) (k : Ret2 RW → Option R) : G58 cp (n + 1) p0 p1 (fun r0 => k ⟨(tL r0), [], []⟩) = run2 U cp (callP cp n) n fn58 [(tL p0), (tL p1)] [] k := by kernel_rfl
end
/-! tideway/seq.Unwrap -/
section
variable (cp : CP) (n : Nat) (k : KX R)
theorem run30 (cp : CP) (n : Nat) (p0 p1 : Int) (k : Ret2 RW → Option R) : G30 cp (n + 1) p0 p1 (fun r0 => k ⟨(tL r0), [], []⟩) = run2 U cp (callP cp n) n fn30 [(tL p0), (tI .u32 p1)] [] k := by kernel_rfl
end
/-! tideway/seq.Add -/
section
variable (cp : CP) (n : Nat) (k : KX R)
theorem run36 (cp : CP) (n : Nat) (p0 p1 : Int) (k : Ret2 RW → Option R) : G36 cp (n + 1) p0 p1 (fun r0 => k ⟨(tI .u32 r0), [], []⟩) = run2 U cp (callP cp n) n fn36 [(tI .u32 p0), (tL p1)] [] k := by kernel_rfl
end
/-! tideway/recv.tell -/
section
variable (cp : CP) (n : Nat) (p0 : SRecv) (p1 : (List SBlock)) (v43 : Int) (v44 : SSegment) (v45 v46 : Int) (v47 : (List SBlock)) (v50 : Int) (v51 v52 v53 v54 : (List SBlock)) (v56 v57 : Int) (v58 : (List SBlock)) (v59 : Int) (v60 : SSegment) (k : KX R)
def w32_0 : Fr := dT 2 ((.ptr 82 0) :: (dT 1 ((.ptr 98 0) :: (.ptr 114 0) :: (dT 1 ((.ptr 130 0) :: (tL v43) :: (dT 7 []))))))
def w32_1 : Fr := dT 2 ((.hdr 15) :: (sl 0 13 (eRecv p0)))
def w32_2 : Fr := sl 13 2 (eRecv p0) ++ [.hdr 15, (tL 0), .row true (.ruint8 []), .row true (.rPiece []), (tL 0), (tL 0), (tL 0), (tI .u32 0), (tB false), (tB false), (tL 0), (tB false), .row true (.rSpan []), (tI .u32 0)]
def w32_3 : Fr := [(tI .u32 0), (tB false), .hdr 15, (tL 0), (tL 0), (tI .u32 0), (tI .u32 0), (tL 0), (tL 0), (tL 0), (tL 0), (tL 0), (tB false), (tB false), (tI .u32 0), (tI .u32 0)]
def w32_4 : Fr := [.row true (.rBlock []), .row true (.ruint8 []), .hdr 15, (tL v44.xSrcPort), (tL v44.xDstPort), (tI .u32 v44.xSeq), (tI .u32 v44.xAck), (tL v44.xFlags), (tL v44.xWin), (tL v44.xUrg), (tL v44.xMss), (tL v44.xScale), (tB v44.xSackOk), (tB v44.xStamped), (tI .u32 v44.xVal), (tI .u32 v44.xEcr)]
def w32_5 : Fr := (.row true (.rBlock v44.xSacks)) :: (.row false (.ruint8 v44.xData)) :: (dT 14 [])
def fr32_2 : FF := [w32_0 v43, dc, dc, dc, dc, w32_1 p0, w32_2 p0, w32_3, w32_4 v44, w32_5 v44]
def fr32_4 : FF := [w32_0 v43, dc, dT 7 ((.row false (.rSpan p0.xFirst)) :: (tL v45) :: (tL 0) :: (dT 6 [])), dc, dc, w32_1 p0, w32_2 p0, w32_3, w32_4 v44, w32_5 v44]
def fr32_6 : FF := [w32_0 v43, dc, dT 7 ((.row false (.rSpan p0.xFirst)) :: (tL v45) :: (tL v50) :: (dT 6 [])), dc, dc, w32_1 p0, w32_2 p0, w32_3, w32_4 v44, (.row true (.rBlock v51)) :: (.row false (.ruint8 v44.xData)) :: (dT 14 [])]
def w32_6 : Fr := dT 2 ((.ptr 82 0) :: (dT 1 ((.ptr 98 0) :: (.ptr 114 0) :: (dT 1 ((.ptr 130 0) :: (dT 8 []))))))
def w32_7 : Fr := (.row true (.rBlock v47)) :: (.row false (.ruint8 v44.xData)) :: (dT 14 [])
def fr32_7 : FF := [w32_6, dc, dc, dc, dc, w32_1 p0, w32_2 p0, w32_3, w32_4 v44, w32_7 v44 v47]
def fr32_8 : FF := [w32_0 v43, dc, dT 7 ((.row false (.rSpan p0.xFirst)) :: (tL v45) :: (tL v46) :: (dT 6 [])), dc, dc, w32_1 p0, w32_2 p0, w32_3, w32_4 v44, w32_7 v44 v47]
theorem s32_5_t : X cp n i32_0 (fr32_8 p0 v43 v44 v45 v46 v47) k = s32_5 cp n p0 v43 v44 v45 v46 v47 (fun v50 v51 => k .norm (fr32_6 p0 v43 v44 v45 v50 v51)) (k (.exit 0) (fr32_7 p0 v44 v47)) := by kernel_rfl
def fr32_9 : FF := [w32_6, dc, dc, dc, dc, w32_1 p0, w32_2 p0, w32_3, w32_4 v44, (.row true (.rBlock v52)) :: (.row false (.ruint8 v44.xData)) :: (dT 14 [])]
theorem l32_10_t (cp : CP) (n : Nat) : ∀ (m : Nat) (p0 : SRecv) (v43 : Int) (v44 : SSegment) (v45 v46 : Int) (v47 : (List SBlock)) (k : KX R), loopN2 (X cp n i32_0) m (fr32_8 p0 v43 v44 v45 v46 v47) k = l32_10 cp n m p0 v43 v44 v45 v46 v47 (fun v52 => k (.exit 0) (fr32_9 p0 v44 v52))
  | 0, _, _, _, _, _, _, _ => rfl
  | m + 1, p0, v43, v44, v45, v46, v47, k => (loopN2_succ (X cp n i32_0) m (fr32_8 p0 v43 v44 v45 v46 v47) k).trans ((s32_5_t cp n p0 v43 v44 v45 v46 v47 (loopT (X cp n i32_0) m k)).trans ((show s32_5 cp n p0 v43 v44 v45 v46 v47 (fun v50 v51 => loopT (X cp n i32_0) m k .norm (fr32_6 p0 v43 v44 v45 v50 v51)) (loopT (X cp n i32_0) m k (.exit 0) (fr32_7 p0 v44 v47)) = s32_5 cp n p0 v43 v44 v45 v46 v47 (fun v50 v51 => loopN2 (X cp n i32_0) m (fr32_8 p0 v43 v44 v45 v50 v51) k) (k (.exit 0) (fr32_9 p0 v44 v47)) from by kernel_rfl).trans (congrArg (fun q => s32_5 cp n p0 v43 v44 v45 v46 v47 q (k (.exit 0) (fr32_9 p0 v44 v47))) (funext fun v50 => funext fun v51 => l32_10_t cp n m p0 v43 v44 v45 v50 v51 k))))
theorem s32_11_t : X cp n i32_1 (fr32_4 p0 v43 v44 v45) k = s32_11 cp n p0 v43 v44 v45 (fun v52 => k (.exit 0) (fr32_9 p0 v44 v52)) := (show X cp n i32_1 (fr32_4 p0 v43 v44 v45) k = loopN2 (X cp n i32_0) n (fr32_8 p0 v43 v44 v45 0 v44.xSacks) k from by kernel_rfl).trans (l32_10_t cp n n p0 v43 v44 v45 0 v44.xSacks k)
def fr32_12 : FF := [w32_6, dc, dc, dc, dc, w32_1 p0, w32_2 p0, w32_3, w32_4 v44, (.row true (.rBlock v53)) :: (.row false (.ruint8 v44.xData)) :: (dT 14 [])]
theorem s32_13_t : X cp n i32_2 (fr32_4 p0 v43 v44 v45) k = s32_13 cp n p0 v43 v44 v45 (fun v53 => k .norm (fr32_12 p0 v44 v53)) := (show X cp n i32_2 (fr32_4 p0 v43 v44 v45) k = X cp n i32_1 (fr32_4 p0 v43 v44 v45) (blkT 0 k) from by kernel_rfl).trans ((s32_11_t cp n p0 v43 v44 v45 (blkT 0 k)).trans (by kernel_rfl))
def w32_8 : Fr := (.row true (.rBlock v54)) :: (.row false (.ruint8 v44.xData)) :: (dT 14 [])
def fr32_14 : FF := [w32_6, dc, dc, dc, dc, w32_1 p0, w32_2 p0, w32_3, w32_4 v44, w32_8 v44 v54]
theorem s32_15_t : X cp n i32_3 (fr32_2 p0 v43 v44) k = s32_15 cp n p0 v43 v44 (fun v54 => k .norm (fr32_14 p0 v44 v54)) := ((fun c => (show X cp n (.seq (.fin (.reg g32_9) [38] []) c) (fr32_2 p0 v43 v44) k = s32_3 cp n p0 v43 v44 (fun v45 => X cp n c (fr32_4 p0 v43 v44 v45) k) from by kernel_rfl)) i32_2).trans (congrArg (fun q => s32_3 cp n p0 v43 v44 q) (funext fun v45 => (s32_13_t cp n p0 v43 v44 v45 k).trans (show s32_13 cp n p0 v43 v44 v45 (fun v53 => k .norm (fr32_12 p0 v44 v53)) = s32_13 cp n p0 v43 v44 v45 (fun v53 => k .norm (fr32_14 p0 v44 v53)) from by kernel_rfl)))
def w32_9 : Fr := dT 4 ((.ptr 98 0) :: (.ptr 114 0) :: (dT 10 []))
def w32_10 : Fr := [(tI .u32 p0.xOwn), (tB p0.xStamp), .hdr 15, (tL v44.xSrcPort), (tL v44.xDstPort), (tI .u32 v44.xSeq), (tI .u32 v44.xAck), (tL v44.xFlags), (tL v44.xWin), (tL v44.xUrg), (tL v44.xMss), (tL v44.xScale), (tB v44.xSackOk), (tB v44.xStamped), (tI .u32 v44.xVal), (tI .u32 v44.xEcr)]
def fr32_17 : FF := [w32_9, dc, dc, dc, dc, dc, dT 2 ([.hdr 15, (tL p0.xNext), .row false (.ruint8 p0.xUnread), .row false (.rPiece p0.xLate), (tL p0.xCap), (tL p0.xShift), (tL v56), (tI .u32 p0.xRecent), (tB p0.xStamps), (tB p0.xSacks), (tL p0.xFin), (tB p0.xDone), .row false (.rSpan p0.xFirst), (tI .u32 p0.xIrs)]), w32_10 p0 v44, w32_8 v44 v54, dc]
theorem s32_16_t : X cp n i32_4 (fr32_14 p0 v44 v54) k = s32_16 cp n p0 v44 v54 (fun v56 => k .ret (fr32_17 p0 v44 v54 v56)) := by kernel_rfl
def fr32_18 : FF := [w32_9, dc, dc, dc, dc, dc, dT 2 ([.hdr 15, (tL p0.xNext), .row false (.ruint8 p0.xUnread), .row false (.rPiece p0.xLate), (tL p0.xCap), (tL p0.xShift), (tL v57), (tI .u32 p0.xRecent), (tB p0.xStamps), (tB p0.xSacks), (tL p0.xFin), (tB p0.xDone), .row false (.rSpan p0.xFirst), (tI .u32 p0.xIrs)]), w32_10 p0 v44, (.row true (.rBlock v58)) :: (.row false (.ruint8 v44.xData)) :: (dT 14 []), dc]
theorem s32_19_t : X cp n i32_5 (fr32_2 p0 v43 v44) k = s32_19 cp n p0 v43 v44 (fun v57 v58 => k .ret (fr32_18 p0 v44 v57 v58)) := (show X cp n i32_5 (fr32_2 p0 v43 v44) k = X cp n i32_3 (fr32_2 p0 v43 v44) (seqT (X cp n) i32_4 k) from by kernel_rfl).trans ((show X cp n i32_3 (fr32_2 p0 v43 v44) (seqT (X cp n) i32_4 k) = s32_15 cp n p0 v43 v44 (fun v54 => X cp n i32_4 (fr32_14 p0 v44 v54) k) from (s32_15_t cp n p0 v43 v44 (seqT (X cp n) i32_4 k)).trans (by kernel_rfl)).trans (congrArg (fun q => s32_15 cp n p0 v43 v44 q) (funext fun v54 => (s32_16_t cp n p0 v44 v54 k).trans (show s32_16 cp n p0 v44 v54 (fun v56 => k .ret (fr32_17 p0 v44 v54 v56)) = s32_16 cp n p0 v44 v54 (fun v56 => k .ret (fr32_18 p0 v44 v56 v54)) from by kernel_rfl))))
def fr32_20 : FF := [w32_9, dc, dc, dc, dc, dc, dT 2 ([.hdr 15, (tL p0.xNext), .row false (.ruint8 p0.xUnread), .row false (.rPiece p0.xLate), (tL p0.xCap), (tL p0.xShift), (tL v59), (tI .u32 p0.xRecent), (tB p0.xStamps), (tB p0.xSacks), (tL p0.xFin), (tB p0.xDone), .row false (.rSpan p0.xFirst), (tI .u32 p0.xIrs)]), [(tI .u32 p0.xOwn), (tB p0.xStamp), .hdr 15, (tL v60.xSrcPort), (tL v60.xDstPort), (tI .u32 v60.xSeq), (tI .u32 v60.xAck), (tL v60.xFlags), (tL v60.xWin), (tL v60.xUrg), (tL v60.xMss), (tL v60.xScale), (tB v60.xSackOk), (tB v60.xStamped), (tI .u32 v60.xVal), (tI .u32 v60.xEcr)], (.row true (.rBlock v60.xSacks)) :: (.row false (.ruint8 v60.xData)) :: (dT 14 []), dc]
def fr32_22 : FF := [(.agg (eRecv p0)) :: (.row true (.rBlock p1)) :: (dT 14 []), dc, dc, dc, dc, dc, dc, dc, dc, dc]
theorem s32_21_t : X cp n i32_6 (fr32_22 p0 p1) k = s32_21 cp n p0 p1 (fun v59 v60 => k .ret (fr32_20 p0 v59 v60)) := ((fun c => (show X cp n (.seq (.fin (.reg g32_0) [0] []) (.seq (.fin (.reg g32_1) [11, 12] []) (.seq (.seq (.fin (.reg g32_2) [13] []) (.fin (.cond (.s 14) (.fin (.reg g32_3) [14, 15, 16] []) (.skip)) [14] [])) (.seq (.fin (.reg g32_4) [1, 6, 17, 18, 19, 20, 21, 22, 23, 24, 25, 26, 27, 28, 29] []) (.seq (.reg g32_5) (.seq (.seq (.fin (.reg g32_6) [30] []) (.fin (.cond (.s 31) (.seq (.fin (.reg g32_7) [31, 32, 33, 34, 35] []) (.fin (.reg g32_8) [36, 37] [])) (.skip)) [31] [])) c)))))) (fr32_22 p0 p1) k = s32_1 cp n p0 p1 (fun v43 v44 => X cp n c (fr32_2 p0 v43 v44) k) from by kernel_rfl)) i32_5).trans (congrArg (fun q => s32_1 cp n p0 p1 q) (funext fun v43 => funext fun v44 => (s32_19_t cp n p0 v43 v44 k).trans (show s32_19 cp n p0 v43 v44 (fun v57 v58 => k .ret (fr32_18 p0 v44 v57 v58)) = s32_19 cp n p0 v43 v44 (fun v57 v58 => k .ret (fr32_20 p0 v57 (SSegment.mk v44.xSrcPort v44.xDstPort v44.xSeq v44.xAck v44.xFlags v44.xWin v44.xUrg v44.xMss v44.xScale v44.xSackOk v44.xStamped v44.xVal v44.xEcr v58 v44.xData))) from by kernel_rfl)))
theorem run32 (cp : CP) (n : Nat) (p0 : SRecv) (p1 : (List SBlock)) (k : Ret2 RW → Option R) : G32 cp (n + 1) p0 p1 (fun r0 r1 => k ⟨.tup [.agg (eRecv r0), .agg [(tL r1.xSrcPort), (tL r1.xDstPort), (tI .u32 r1.xSeq), (tI .u32 r1.xAck), (tL r1.xFlags), (tL r1.xWin), (tL r1.xUrg), (tL r1.xMss), (tL r1.xScale), (tB r1.xSackOk), (tB r1.xStamped), (tI .u32 r1.xVal), (tI .u32 r1.xEcr), .row true (.rBlock r1.xSacks), .row false (.ruint8 r1.xData)]], [], []⟩) = run2 U cp (callP cp n) n fn32 [.agg (eRecv p0), .row true (.rBlock p1)] [] k := ((X_run (f := fn32) (av := [.agg (eRecv p0), .row true (.rBlock p1)]) (cells := []) (code := i32_6) (fr := (fr32_22 p0 p1)) (k := k) (by kernel_rfl) (fun K => by kernel_rfl)).trans ((s32_21_t cp n p0 p1 (finK2 fn32 k)).trans (by kernel_rfl))).symm
end
/-! tideway/recv.end -/
section
variable (cp : CP) (n : Nat) (p0 : SRecv) (p1 : Int) (v21 : SRecv) (v22 v23 v24 v25 : Int) (v26 : (List Int)) (v28 v29 v30 v31 v32 v33 v34 v35 v36 v37 v38 v39 v40 v41 v42 v43 v44 v46 v47 v48 : Int) (k : KX R)
def w33_0 : Fr := dT 1 ((tL p1) :: (.ptr 32 0) :: (dT 2 ((.ptr 48 0) :: (dT 10 []))))
def w33_1 : Fr := (.hdr 15) :: (eRecv p0)
def fr33_2 : FF := [w33_0 p1, dc, w33_1 p0, (.hdr 1) :: (tL p0.xNext) :: (dT 14 []), dc]
def w33_2 : Fr := dT 1 ((tL p1) :: (.ptr 32 0) :: (dT 2 ((.ptr 48 0) :: (dT 4 ((.clo 70 [(53, 0)]) :: (dT 5 []))))))
def fr33_4 : FF := [w33_2 p1, dc, w33_1 p0, (.hdr 1) :: (tL p0.xNext) :: (dT 3 ((.hdr 15) :: (sl 0 10 (eRecv v21)))), sl 10 5 (eRecv v21) ++ (dT 11 [])]
def fr33_6 : FF := [w33_2 p1, dc, dc, dc, dc]
def y33_5 (cp : CP) (n : Nat) (p1 : Int) : List (TV RW) → FF → (FF → Option R) → Option R := rndT 2 [11] [32, 48, 53, 69] (fr33_6 p1) (X cp n i33_2)
def fr33_8 (p0 : SRecv) (p1 : Int) (v21 : SRecv) (v22 : Int) : FF := [.yld :: (dT 5 ((.row false (.rPiece v21.xLate)) :: (tL v22) :: (tL 0) :: (dT 7 []))), dc, (.hdr 15) :: (eRecv p0), (.hdr 1) :: (tL p0.xNext) :: (dT 3 ((.hdr 15) :: (sl 0 10 (eRecv v21)))), sl 10 5 (eRecv v21) ++ (dT 11 [])]
def fr33_10 (p0 : SRecv) (p1 : Int) (v21 : SRecv) (v22 v23 v24 : Int) : FF := [.yld :: (dT 5 ((.row false (.rPiece v21.xLate)) :: (tL v22) :: (tL v23) :: (dT 7 []))), dc, (.hdr 15) :: (eRecv p0), (.hdr 1) :: (tL v24) :: (dT 3 ((.hdr 15) :: (sl 0 10 (eRecv v21)))), sl 10 5 (eRecv v21) ++ (dT 11 [])]
def fr33_11 (p0 : SRecv) (p1 : Int) (v21 : SRecv) (v24 : Int) : FF := [dc, dc, (.hdr 15) :: (eRecv p0), (.hdr 1) :: (tL v24) :: (dT 3 ((.hdr 15) :: (sl 0 10 (eRecv v21)))), sl 10 5 (eRecv v21) ++ (dT 11 [])]
def fr33_13 (p0 : SRecv) (p1 : Int) (v21 : SRecv) (v22 v23 v24 v25 : Int) (v26 : (List Int)) : FF := [.yld :: (dT 3 ((.ptr 69 0) :: (dT 1 ((.row false (.rPiece v21.xLate)) :: (tL v22) :: (tL v23) :: (dT 7 []))))), dc, (.hdr 15) :: (eRecv p0), (.hdr 1) :: (tL v24) :: (dT 3 ((.hdr 15) :: (sl 0 10 (eRecv v21)))), sl 10 5 (eRecv v21) ++ ((.hdr 2) :: (tL v25) :: (.row false (.ruint8 v26)) :: (dT 8 []))]
def fr33_15 (p0 : SRecv) (p1 : Int) (v21 : SRecv) (v22 v23 v24 v25 : Int) (v26 : (List Int)) (v28 v29 : Int) : FF := [.yld :: (dT 3 ((.ptr 69 0) :: (dT 1 ((.row false (.rPiece v21.xLate)) :: (tL v22) :: (tL v23) :: (dT 3 (.yld :: (.agg [(tL v25), .row false (.ruint8 v26)]) :: (.agg [(tL v28), (tL v29)]) :: (dT 1 []))))))), dc, (.hdr 15) :: (eRecv p0), (.hdr 1) :: (tL v24) :: (dT 3 ((.hdr 15) :: (sl 0 10 (eRecv v21)))), sl 10 5 (eRecv v21) ++ ((.hdr 2) :: (tL v25) :: (.row false (.ruint8 v26)) :: (dT 8 []))]
theorem s33_14_t (cp : CP) (n : Nat) (p0 : SRecv) (p1 : Int) (v21 : SRecv) (v22 v23 v24 v25 : Int) (v26 : (List Int)) (A B : FF → Option R) : (gF (fr33_13 p0 p1 v21 v22 v23 v24 v25 v26) fun l => steps2 U cp (callP cp n) g33_10031 l fun l1 => yGuard2 none l1 (A l1) (B l1)) = s33_14 cp n p0 p1 v21 v22 v23 v24 v25 v26 (fun v28 v29 => A (fr33_15 p0 p1 v21 v22 v23 v24 v25 v26 v28 v29)) := by kernel_rfl
def w33_3 : Fr := sl 10 5 (eRecv v21) ++ ((.hdr 2) :: (tL v25) :: (.row false (.ruint8 v26)) :: (dT 8 []))
def fr33_17 : FF := [w33_2 p1, dc, w33_1 p0, (.hdr 1) :: (tL v29) :: (dT 3 ((.hdr 15) :: (sl 0 10 (eRecv v21)))), w33_3 v21 v25 v26]
def fr33_18 : FF := [dT 1 ((tL p1) :: (.ptr 32 0) :: (dT 2 ((.ptr 48 0) :: (dT 4 ((.clo 70 [(53, 0)]) :: (.agg [(tL v28), (tL v29)]) :: (dT 4 [])))))), dc, w33_1 p0, (.hdr 1) :: (tL v24) :: (dT 3 ((.hdr 15) :: (sl 0 10 (eRecv v21)))), w33_3 v21 v25 v26]
theorem s33_16_t : X cp n i33_2 (fr33_18 p0 p1 v21 v24 v25 v26 v28 v29) k = s33_16 cp n p0 p1 v21 v24 v25 v26 v28 v29 (k .norm (fr33_17 p0 p1 v21 v25 v26 v29)) := by kernel_rfl
def fr33_20 (p0 : SRecv) (p1 : Int) (v21 : SRecv) (v22 v23 v25 : Int) (v26 : (List Int)) (v28 v29 : Int) : FF := [.yld :: (dT 3 ((.ptr 69 0) :: (dT 1 ((.row false (.rPiece v21.xLate)) :: (tL v22) :: (tL v23) :: (dT 3 ([.yld, .agg [(tL v25), .row false (.ruint8 v26)], .agg [(tL v28), (tL v29)], (tB true)])))))), dc, (.hdr 15) :: (eRecv p0), (.hdr 1) :: (tL v29) :: (dT 3 ((.hdr 15) :: (sl 0 10 (eRecv v21)))), sl 10 5 (eRecv v21) ++ ((.hdr 2) :: (tL v25) :: (.row false (.ruint8 v26)) :: (dT 8 []))]
theorem q33_19_t (cp : CP) (n : Nat) (p0 : SRecv) (p1 : Int) (v21 : SRecv) (v22 v23 v24 v25 : Int) (v26 : (List Int)) (v28 v29 : Int) (K : FF → Option R) : yRun2 (y33_5 cp n p1) (.s 12) [.s 14] 15 (fr33_15 p0 p1 v21 v22 v23 v24 v25 v26 v28 v29) K = s33_16 cp n p0 p1 v21 v24 v25 v26 v28 v29 (K (fr33_20 p0 p1 v21 v22 v23 v25 v26 v28 v29)) := ((fun x => (show yRun2 (rndT 2 [11] [32, 48, 53, 69] (fr33_6 p1) x) (.s 12) [.s 14] 15 (fr33_15 p0 p1 v21 v22 v23 v24 v25 v26 v28 v29) K = x (fr33_18 p0 p1 v21 v24 v25 v26 v28 v29) (roundT 2 (fr33_15 p0 p1 v21 v22 v23 v24 v25 v26 v28 v29) (fun l2 => putO l2 (some 15) (.sc (.bool true)) K)) from by kernel_rfl)) (X cp n i33_2)).trans ((s33_16_t cp n p0 p1 v21 v24 v25 v26 v28 v29 (roundT 2 (fr33_15 p0 p1 v21 v22 v23 v24 v25 v26 v28 v29) (fun l2 => putO l2 (some 15) (.sc (.bool true)) K))).trans (by kernel_rfl))
def fr33_21 (p0 : SRecv) (p1 : Int) (v21 : SRecv) (v22 v23 v30 : Int) : FF := [.yld :: (dT 5 ((.row false (.rPiece v21.xLate)) :: (tL v22) :: (tL v23) :: (dT 7 []))), (tB false) :: (dT 15 []), (.hdr 15) :: (eRecv p0), (.hdr 1) :: (tL v30) :: (dT 3 ((.hdr 15) :: (sl 0 10 (eRecv v21)))), sl 10 5 (eRecv v21) ++ (dT 11 [])]
theorem s33_22_t : XI cp n (y33_5 cp n p1) i33_4 (fr33_13 p0 p1 v21 v22 v23 v24 v25 v26) k = s33_22 cp n p0 p1 v21 v22 v23 v24 v25 v26 (fun v30 => k .norm (fr33_21 p0 p1 v21 v22 v23 v30)) := (show XI cp n (y33_5 cp n p1) i33_4 (fr33_13 p0 p1 v21 v22 v23 v24 v25 v26) k = gF (fr33_13 p0 p1 v21 v22 v23 v24 v25 v26) fun l => steps2 U cp (callP cp n) g33_10031 l fun l1 => yGuard2 none l1 ((fun l1 => yRun2 (y33_5 cp n p1) (.s 12) [.s 14] 15 l1 (fun l2 => steps2 U cp (callP cp n) g33_10032 l2 ((clrT [4, 12, 13, 14, 15] [(69, 2)] k) .norm))) l1) ((fun l1 => putO l1 (some 15) (.tup []) fun l2 => steps2 U cp (callP cp n) g33_10032 l2 ((clrT [4, 12, 13, 14, 15] [(69, 2)] k) .norm)) l1) from by kernel_rfl).trans ((s33_14_t cp n p0 p1 v21 v22 v23 v24 v25 v26 (fun l1 => yRun2 (y33_5 cp n p1) (.s 12) [.s 14] 15 l1 (fun l2 => steps2 U cp (callP cp n) g33_10032 l2 ((clrT [4, 12, 13, 14, 15] [(69, 2)] k) .norm))) (fun l1 => putO l1 (some 15) (.tup []) fun l2 => steps2 U cp (callP cp n) g33_10032 l2 ((clrT [4, 12, 13, 14, 15] [(69, 2)] k) .norm))).trans (congrArg (s33_14 cp n p0 p1 v21 v22 v23 v24 v25 v26) (funext fun v28 => funext fun v29 => (q33_19_t cp n p0 p1 v21 v22 v23 v24 v25 v26 v28 v29 (fun l2 => steps2 U cp (callP cp n) g33_10032 l2 ((clrT [4, 12, 13, 14, 15] [(69, 2)] k) .norm))).trans (show s33_16 cp n p0 p1 v21 v24 v25 v26 v28 v29 ((fun l2 => steps2 U cp (callP cp n) g33_10032 l2 ((clrT [4, 12, 13, 14, 15] [(69, 2)] k) .norm)) (fr33_20 p0 p1 v21 v22 v23 v25 v26 v28 v29)) = s33_16 cp n p0 p1 v21 v24 v25 v26 v28 v29 (k .norm (fr33_21 p0 p1 v21 v22 v23 v29)) from by kernel_rfl))))
def fr33_24 (p0 : SRecv) (p1 : Int) (v21 : SRecv) (v22 v23 v30 : Int) : FF := [.yld :: (dT 5 ((.row false (.rPiece v21.xLate)) :: (tL v22) :: (tL v23) :: (dT 7 []))), dc, (.hdr 15) :: (eRecv p0), (.hdr 1) :: (tL v30) :: (dT 3 ((.hdr 15) :: (sl 0 10 (eRecv v21)))), sl 10 5 (eRecv v21) ++ (dT 11 [])]
theorem s33_23_t : XI cp n (y33_5 cp n p1) i33_5 (fr33_21 p0 p1 v21 v22 v23 v30) k = s33_23 cp n p0 p1 v21 v22 v23 v30 (k .norm (fr33_24 p0 p1 v21 v22 v23 v30)) := by kernel_rfl
def fr33_25 (p0 : SRecv) (p1 : Int) (v21 : SRecv) (v22 v23 v31 : Int) : FF := [.yld :: (dT 5 ((.row false (.rPiece v21.xLate)) :: (tL v22) :: (tL v23) :: (dT 7 []))), dc, (.hdr 15) :: (eRecv p0), (.hdr 1) :: (tL v31) :: (dT 3 ((.hdr 15) :: (sl 0 10 (eRecv v21)))), sl 10 5 (eRecv v21) ++ (dT 11 [])]
theorem s33_26_t : XI cp n (y33_5 cp n p1) i33_6 (fr33_13 p0 p1 v21 v22 v23 v24 v25 v26) k = s33_26 cp n p0 p1 v21 v22 v23 v24 v25 v26 (fun v31 => k .norm (fr33_25 p0 p1 v21 v22 v23 v31)) := (show XI cp n (y33_5 cp n p1) i33_6 (fr33_13 p0 p1 v21 v22 v23 v24 v25 v26) k = XI cp n (y33_5 cp n p1) i33_4 (fr33_13 p0 p1 v21 v22 v23 v24 v25 v26) (seqT (XI cp n (y33_5 cp n p1)) i33_5 k) from by kernel_rfl).trans ((show XI cp n (y33_5 cp n p1) i33_4 (fr33_13 p0 p1 v21 v22 v23 v24 v25 v26) (seqT (XI cp n (y33_5 cp n p1)) i33_5 k) = s33_22 cp n p0 p1 v21 v22 v23 v24 v25 v26 (fun v30 => XI cp n (y33_5 cp n p1) i33_5 (fr33_21 p0 p1 v21 v22 v23 v30) k) from (s33_22_t cp n p0 p1 v21 v22 v23 v24 v25 v26 (seqT (XI cp n (y33_5 cp n p1)) i33_5 k)).trans (by kernel_rfl)).trans (congrArg (fun q => s33_22 cp n p0 p1 v21 v22 v23 v24 v25 v26 q) (funext fun v30 => (s33_23_t cp n p0 p1 v21 v22 v23 v30 k).trans (show s33_23 cp n p0 p1 v21 v22 v23 v30 (k .norm (fr33_24 p0 p1 v21 v22 v23 v30)) = s33_23 cp n p0 p1 v21 v22 v23 v30 (k .norm (fr33_25 p0 p1 v21 v22 v23 v30)) from by kernel_rfl))))
def fr33_27 (p0 : SRecv) (p1 : Int) (v21 : SRecv) (v22 v23 v32 : Int) : FF := [.yld :: (dT 5 ((.row false (.rPiece v21.xLate)) :: (tL v22) :: (tL v23) :: (dT 7 []))), dc, (.hdr 15) :: (eRecv p0), (.hdr 1) :: (tL v32) :: (dT 3 ((.hdr 15) :: (sl 0 10 (eRecv v21)))), sl 10 5 (eRecv v21) ++ (dT 11 [])]
theorem s33_28_t : XI cp n (y33_5 cp n p1) i33_7 (fr33_10 p0 p1 v21 v22 v23 v24) k = s33_28 cp n p0 p1 v21 v22 v23 v24 (fun v32 => k .norm (fr33_27 p0 p1 v21 v22 v23 v32)) := ((fun c => (show XI cp n (y33_5 cp n p1) (.seq (.fin (.reg g33_1002) [10, 11] []) c) (fr33_10 p0 p1 v21 v22 v23 v24) k = s33_12 cp n p0 p1 v21 v22 v23 v24 (fun v25 v26 => XI cp n (y33_5 cp n p1) c (fr33_13 p0 p1 v21 v22 v23 v24 v25 v26) k) from by kernel_rfl)) i33_6).trans (congrArg (fun q => s33_12 cp n p0 p1 v21 v22 v23 v24 q) (funext fun v25 => funext fun v26 => (s33_26_t cp n p0 p1 v21 v22 v23 v24 v25 v26 k).trans (show s33_26 cp n p0 p1 v21 v22 v23 v24 v25 v26 (fun v31 => k .norm (fr33_25 p0 p1 v21 v22 v23 v31)) = s33_26 cp n p0 p1 v21 v22 v23 v24 v25 v26 (fun v31 => k .norm (fr33_27 p0 p1 v21 v22 v23 v31)) from by kernel_rfl)))
def fr33_29 (p0 : SRecv) (p1 : Int) (v21 : SRecv) (v22 v23 v33 : Int) : FF := [.yld :: (dT 5 ((.row false (.rPiece v21.xLate)) :: (tL v22) :: (tL v23) :: (dT 7 []))), dc, (.hdr 15) :: (eRecv p0), (.hdr 1) :: (tL v33) :: (dT 3 ((.hdr 15) :: (sl 0 10 (eRecv v21)))), sl 10 5 (eRecv v21) ++ (dT 11 [])]
theorem s33_30_t : XI cp n (y33_5 cp n p1) i33_8 (fr33_10 p0 p1 v21 v22 v23 v24) k = s33_30 cp n p0 p1 v21 v22 v23 v24 (fun v33 => k .norm (fr33_29 p0 p1 v21 v22 v23 v33)) := (show XI cp n (y33_5 cp n p1) i33_8 (fr33_10 p0 p1 v21 v22 v23 v24) k = XI cp n (y33_5 cp n p1) i33_7 (fr33_10 p0 p1 v21 v22 v23 v24) (blkT 1 k) from by kernel_rfl).trans ((s33_28_t cp n p0 p1 v21 v22 v23 v24 (blkT 1 k)).trans (by kernel_rfl))
def fr33_32 (p0 : SRecv) (p1 : Int) (v21 : SRecv) (v22 v33 v34 : Int) : FF := [.yld :: (dT 5 ((.row false (.rPiece v21.xLate)) :: (tL v22) :: (tL v34) :: (dT 7 []))), dc, (.hdr 15) :: (eRecv p0), (.hdr 1) :: (tL v33) :: (dT 3 ((.hdr 15) :: (sl 0 10 (eRecv v21)))), sl 10 5 (eRecv v21) ++ (dT 11 [])]
theorem s33_31_t : XI cp n (y33_5 cp n p1) i33_9 (fr33_29 p0 p1 v21 v22 v23 v33) k = s33_31 cp n p0 p1 v21 v22 v23 v33 (fun v34 => k .norm (fr33_32 p0 p1 v21 v22 v33 v34)) := by kernel_rfl
def fr33_33 (p0 : SRecv) (p1 : Int) (v21 : SRecv) (v22 v35 v36 : Int) : FF := [.yld :: (dT 5 ((.row false (.rPiece v21.xLate)) :: (tL v22) :: (tL v35) :: (dT 7 []))), dc, (.hdr 15) :: (eRecv p0), (.hdr 1) :: (tL v36) :: (dT 3 ((.hdr 15) :: (sl 0 10 (eRecv v21)))), sl 10 5 (eRecv v21) ++ (dT 11 [])]
theorem s33_34_t : XI cp n (y33_5 cp n p1) i33_10 (fr33_10 p0 p1 v21 v22 v23 v24) k = s33_34 cp n p0 p1 v21 v22 v23 v24 (fun v35 v36 => k .norm (fr33_33 p0 p1 v21 v22 v35 v36)) := (show XI cp n (y33_5 cp n p1) i33_10 (fr33_10 p0 p1 v21 v22 v23 v24) k = XI cp n (y33_5 cp n p1) i33_8 (fr33_10 p0 p1 v21 v22 v23 v24) (seqT (XI cp n (y33_5 cp n p1)) i33_9 k) from by kernel_rfl).trans ((show XI cp n (y33_5 cp n p1) i33_8 (fr33_10 p0 p1 v21 v22 v23 v24) (seqT (XI cp n (y33_5 cp n p1)) i33_9 k) = s33_30 cp n p0 p1 v21 v22 v23 v24 (fun v33 => XI cp n (y33_5 cp n p1) i33_9 (fr33_29 p0 p1 v21 v22 v23 v33) k) from (s33_30_t cp n p0 p1 v21 v22 v23 v24 (seqT (XI cp n (y33_5 cp n p1)) i33_9 k)).trans (by kernel_rfl)).trans (congrArg (fun q => s33_30 cp n p0 p1 v21 v22 v23 v24 q) (funext fun v33 => (s33_31_t cp n p0 p1 v21 v22 v23 v33 k).trans (show s33_31 cp n p0 p1 v21 v22 v23 v33 (fun v34 => k .norm (fr33_32 p0 p1 v21 v22 v33 v34)) = s33_31 cp n p0 p1 v21 v22 v23 v33 (fun v34 => k .norm (fr33_33 p0 p1 v21 v22 v34 v33)) from by kernel_rfl))))
def fr33_35 (p0 : SRecv) (p1 : Int) (v21 : SRecv) (v22 v37 v38 : Int) : FF := [.yld :: (dT 5 ((.row false (.rPiece v21.xLate)) :: (tL v22) :: (tL v37) :: (dT 7 []))), dc, (.hdr 15) :: (eRecv p0), (.hdr 1) :: (tL v38) :: (dT 3 ((.hdr 15) :: (sl 0 10 (eRecv v21)))), sl 10 5 (eRecv v21) ++ (dT 11 [])]
theorem s33_36_t : XI cp n (y33_5 cp n p1) i33_11 (fr33_10 p0 p1 v21 v22 v23 v24) k = s33_36 cp n p0 p1 v21 v22 v23 v24 (fun v37 v38 => k .norm (fr33_35 p0 p1 v21 v22 v37 v38)) (k (.exit 0) (fr33_11 p0 p1 v21 v24)) := ((fun c => (show XI cp n (y33_5 cp n p1) (.seq (.reg g33_1001) (.seq (.fin (.cond (.s 9) (.skip) (.clr [0, 6, 7, 8, 9] [] (.exit 0))) [9] []) c)) (fr33_10 p0 p1 v21 v22 v23 v24) k = s33_9 cp n p0 p1 v21 v22 v23 v24 (XI cp n (y33_5 cp n p1) c (fr33_10 p0 p1 v21 v22 v23 v24) k) (k (.exit 0) (fr33_11 p0 p1 v21 v24)) from by kernel_rfl)) i33_10).trans (congrArg (fun q => s33_9 cp n p0 p1 v21 v22 v23 v24 q (k (.exit 0) (fr33_11 p0 p1 v21 v24))) ((s33_34_t cp n p0 p1 v21 v22 v23 v24 k).trans (show s33_34 cp n p0 p1 v21 v22 v23 v24 (fun v35 v36 => k .norm (fr33_33 p0 p1 v21 v22 v35 v36)) = s33_34 cp n p0 p1 v21 v22 v23 v24 (fun v35 v36 => k .norm (fr33_35 p0 p1 v21 v22 v35 v36)) from by kernel_rfl)))
def fr33_37 (p0 : SRecv) (p1 : Int) (v21 : SRecv) (v39 : Int) : FF := [dc, dc, (.hdr 15) :: (eRecv p0), (.hdr 1) :: (tL v39) :: (dT 3 ((.hdr 15) :: (sl 0 10 (eRecv v21)))), sl 10 5 (eRecv v21) ++ (dT 11 [])]
theorem l33_38_t (cp : CP) (n : Nat) : ∀ (m : Nat) (p0 : SRecv) (p1 : Int) (v21 : SRecv) (v22 v23 v24 : Int) (k : KX R), loopN2 (XI cp n (y33_5 cp n p1) i33_11) m (fr33_10 p0 p1 v21 v22 v23 v24) k = l33_38 cp n m p0 p1 v21 v22 v23 v24 (fun v39 => k (.exit 0) (fr33_37 p0 p1 v21 v39))
  | 0, _, _, _, _, _, _, _ => rfl
  | m + 1, p0, p1, v21, v22, v23, v24, k => (loopN2_succ (XI cp n (y33_5 cp n p1) i33_11) m (fr33_10 p0 p1 v21 v22 v23 v24) k).trans ((s33_36_t cp n p0 p1 v21 v22 v23 v24 (loopT (XI cp n (y33_5 cp n p1) i33_11) m k)).trans ((show s33_36 cp n p0 p1 v21 v22 v23 v24 (fun v37 v38 => loopT (XI cp n (y33_5 cp n p1) i33_11) m k .norm (fr33_35 p0 p1 v21 v22 v37 v38)) (loopT (XI cp n (y33_5 cp n p1) i33_11) m k (.exit 0) (fr33_11 p0 p1 v21 v24)) = s33_36 cp n p0 p1 v21 v22 v23 v24 (fun v37 v38 => loopN2 (XI cp n (y33_5 cp n p1) i33_11) m (fr33_10 p0 p1 v21 v22 v37 v38) k) (k (.exit 0) (fr33_37 p0 p1 v21 v24)) from by kernel_rfl).trans (congrArg (fun q => s33_36 cp n p0 p1 v21 v22 v23 v24 q (k (.exit 0) (fr33_37 p0 p1 v21 v24))) (funext fun v37 => funext fun v38 => l33_38_t cp n m p0 p1 v21 v22 v37 v38 k))))
theorem s33_39_t : XI cp n (y33_5 cp n p1) i33_12 (fr33_8 p0 p1 v21 v22) k = s33_39 cp n p0 p1 v21 v22 (fun v39 => k (.exit 0) (fr33_37 p0 p1 v21 v39)) := (show XI cp n (y33_5 cp n p1) i33_12 (fr33_8 p0 p1 v21 v22) k = loopN2 (XI cp n (y33_5 cp n p1) i33_11) n (fr33_10 p0 p1 v21 v22 0 p0.xNext) k from by kernel_rfl).trans (l33_38_t cp n n p0 p1 v21 v22 0 p0.xNext k)
def fr33_40 (p0 : SRecv) (p1 : Int) (v21 : SRecv) (v40 : Int) : FF := [dc, dc, (.hdr 15) :: (eRecv p0), (.hdr 1) :: (tL v40) :: (dT 3 ((.hdr 15) :: (sl 0 10 (eRecv v21)))), sl 10 5 (eRecv v21) ++ (dT 11 [])]
theorem s33_41_t : XI cp n (y33_5 cp n p1) i33_13 (fr33_8 p0 p1 v21 v22) k = s33_41 cp n p0 p1 v21 v22 (fun v40 => k .norm (fr33_40 p0 p1 v21 v40)) := (show XI cp n (y33_5 cp n p1) i33_13 (fr33_8 p0 p1 v21 v22) k = XI cp n (y33_5 cp n p1) i33_12 (fr33_8 p0 p1 v21 v22) (blkT 0 k) from by kernel_rfl).trans ((s33_39_t cp n p0 p1 v21 v22 (blkT 0 k)).trans (by kernel_rfl))
def fr33_42 (p0 : SRecv) (p1 : Int) (v21 : SRecv) (v41 : Int) : FF := [dc, dc, (.hdr 15) :: (eRecv p0), (.hdr 1) :: (tL v41) :: (dT 3 ((.hdr 15) :: (sl 0 10 (eRecv v21)))), sl 10 5 (eRecv v21) ++ (dT 11 [])]
def fr33_44 (p0 : SRecv) (p1 : Int) (v21 : SRecv) : FF := [.yld :: (.ptr 53 0) :: (dT 14 []), dc, (.hdr 15) :: (eRecv p0), (.hdr 1) :: (tL p0.xNext) :: (dT 3 ((.hdr 15) :: (sl 0 10 (eRecv v21)))), sl 10 5 (eRecv v21) ++ (dT 11 [])]
theorem s33_43_t : XI cp n (y33_5 cp n p1) i33_3 (fr33_44 p0 p1 v21) k = s33_43 cp n p0 p1 v21 (fun v41 => k .norm (fr33_42 p0 p1 v21 v41)) := ((fun c => (show XI cp n (y33_5 cp n p1) (.seq (.fin (.reg g33_1000) [1, 5] []) c) (fr33_44 p0 p1 v21) k = s33_7 cp n p0 p1 v21 (fun v22 => XI cp n (y33_5 cp n p1) c (fr33_8 p0 p1 v21 v22) k) from by kernel_rfl)) i33_13).trans (congrArg (fun q => s33_7 cp n p0 p1 v21 q) (funext fun v22 => (s33_41_t cp n p0 p1 v21 v22 k).trans (show s33_41 cp n p0 p1 v21 v22 (fun v40 => k .norm (fr33_40 p0 p1 v21 v40)) = s33_41 cp n p0 p1 v21 v22 (fun v40 => k .norm (fr33_42 p0 p1 v21 v40)) from by kernel_rfl)))
def fr33_45 : FF := [w33_0 p1, dc, w33_1 p0, (.hdr 1) :: (tL v42) :: (dT 14 []), dc]
theorem s33_46_t : X cp n i33_14 (fr33_4 p0 p1 v21) k = s33_46 cp n p0 p1 v21 (fun v42 => k .norm (fr33_45 p0 p1 v42)) := (show X cp n i33_14 (fr33_4 p0 p1 v21) k = XI cp n (roundK2 2 [11] [32, 48, 53, 69] (fr33_4 p0 p1 v21) (X cp n i33_0) (X cp n i33_1)) i33_3 (fr33_44 p0 p1 v21) (rfnT 2 (fr33_4 p0 p1 v21) (clrT [10] [(53, 15)] k)) from rfn_eq (v := .clo 70 [(53, 0)]) (by kernel_rfl) (by kernel_rfl) (by kernel_rfl) _ _ _).trans ((congrArg (fun Y => XI cp n Y i33_3 (fr33_44 p0 p1 v21) (rfnT 2 (fr33_4 p0 p1 v21) (clrT [10] [(53, 15)] k))) ((rnd_eq 2 [11] [32, 48, 53, 69] (fr33_4 p0 p1 v21) i33_0 i33_1).trans (show rndT 2 [11] [32, 48, 53, 69] (fr33_4 p0 p1 v21) (X cp n i33_2) = (y33_5 cp n p1) from by kernel_rfl))).trans ((s33_43_t cp n p0 p1 v21 (rfnT 2 (fr33_4 p0 p1 v21) (clrT [10] [(53, 15)] k))).trans (by kernel_rfl)))
def fr33_47 : FF := [w33_0 p1, dc, w33_1 p0, (.hdr 1) :: (tL v43) :: (dT 14 []), dc]
theorem s33_48_t : X cp n i33_15 (fr33_4 p0 p1 v21) k = s33_48 cp n p0 p1 v21 (fun v43 => k .norm (fr33_47 p0 p1 v43)) := (show X cp n i33_15 (fr33_4 p0 p1 v21) k = X cp n i33_14 (fr33_4 p0 p1 v21) (blkT 0 k) from by kernel_rfl).trans ((s33_46_t cp n p0 p1 v21 (blkT 0 k)).trans (by kernel_rfl))
def fr33_49 : FF := [w33_0 p1, dc, w33_1 p0, (.hdr 1) :: (tL v44) :: (dT 14 []), dc]
theorem s33_50_t : X cp n i33_16 (fr33_2 p0 p1) k = s33_50 cp n p0 p1 (fun v44 => k .norm (fr33_49 p0 p1 v44)) := ((fun c => (show X cp n (.seq (.fin (.reg g33_2) [9] []) c) (fr33_2 p0 p1) k = s33_3 cp n p0 p1 (fun v21 => X cp n c (fr33_4 p0 p1 v21) k) from by kernel_rfl)) i33_15).trans (congrArg (fun q => s33_3 cp n p0 p1 q) (funext fun v21 => (s33_48_t cp n p0 p1 v21 k).trans (show s33_48 cp n p0 p1 v21 (fun v43 => k .norm (fr33_47 p0 p1 v43)) = s33_48 cp n p0 p1 v21 (fun v43 => k .norm (fr33_49 p0 p1 v43)) from by kernel_rfl)))
def fr33_52 : FF := [dT 4 ((tL v46) :: (dT 11 [])), dc, dc, dc, dc]
theorem s33_51_t : X cp n i33_17 (fr33_49 p0 p1 v44) k = s33_51 cp n p0 p1 v44 (fun v46 => k .ret (fr33_52 v46)) := by kernel_rfl
def fr33_53 : FF := [dT 4 ((tL v47) :: (dT 11 [])), dc, dc, dc, dc]
theorem s33_54_t : X cp n i33_18 (fr33_2 p0 p1) k = s33_54 cp n p0 p1 (fun v47 => k .ret (fr33_53 v47)) := (show X cp n i33_18 (fr33_2 p0 p1) k = X cp n i33_16 (fr33_2 p0 p1) (seqT (X cp n) i33_17 k) from by kernel_rfl).trans ((show X cp n i33_16 (fr33_2 p0 p1) (seqT (X cp n) i33_17 k) = s33_50 cp n p0 p1 (fun v44 => X cp n i33_17 (fr33_49 p0 p1 v44) k) from (s33_50_t cp n p0 p1 (seqT (X cp n) i33_17 k)).trans (by kernel_rfl)).trans (congrArg (fun q => s33_50 cp n p0 p1 q) (funext fun v44 => (s33_51_t cp n p0 p1 v44 k).trans (show s33_51 cp n p0 p1 v44 (fun v46 => k .ret (fr33_52 v46)) = s33_51 cp n p0 p1 v44 (fun v46 => k .ret (fr33_53 v46)) from by kernel_rfl))))
def fr33_55 : FF := [dT 4 ((tL v48) :: (dT 11 [])), dc, dc, dc, dc]
def fr33_57 : FF := [(.agg (eRecv p0)) :: (tL p1) :: (dT 14 []), dc, dc, dc, dc]
theorem s33_56_t : X cp n i33_19 (fr33_57 p0 p1) k = s33_56 cp n p0 p1 (fun v48 => k .ret (fr33_55 v48)) := ((fun c => (show X cp n (.seq (.fin (.reg g33_0) [0, 4] []) (.seq (.fin (.reg g33_1) [7, 8] []) c)) (fr33_57 p0 p1) k = s33_1 cp n p0 p1 (X cp n c (fr33_2 p0 p1) k) from by kernel_rfl)) i33_18).trans (congrArg (fun q => s33_1 cp n p0 p1 q) ((s33_54_t cp n p0 p1 k).trans (show s33_54 cp n p0 p1 (fun v47 => k .ret (fr33_53 v47)) = s33_54 cp n p0 p1 (fun v47 => k .ret (fr33_55 v47)) from by kernel_rfl)))
theorem run33 (cp : CP) (n : Nat) (p0 : SRecv) (p1 : Int) (k : Ret2 RW → Option R) : G33 cp (n + 1) p0 p1 (fun r0 => k ⟨(tL r0), [], []⟩) = run2 U cp (callP cp n) n fn33 [.agg (eRecv p0), (tL p1)] [] k := ((X_run (f := fn33) (av := [.agg (eRecv p0), (tL p1)]) (cells := []) (code := i33_19) (fr := (fr33_57 p0 p1)) (k := k) (by kernel_rfl) (fun K => by kernel_rfl)).trans ((s33_56_t cp n p0 p1 (finK2 fn33 k)).trans (by kernel_rfl))).symm
end
/-! tideway/span.may -/
section
variable (cp : CP) (n : Nat) (k : KX R)
theorem run82 (cp : CP) (n : Nat) (p0 : SSpan) (k : Ret2 RW → Option R) : G82 cp (n + 1) p0 (fun r0 => k ⟨(tB r0), [], []⟩) = run2 U cp (callP cp n) n fn82 [.agg (eSpan p0)] [] k := by kernel_rfl
end
/-! tideway/span.Check -/
section
variable (cp : CP) (n : Nat) (p0 : (List SSpan)) (v82 v83 v85 v86 v87 : Int) (k : KX R)
def fr78_2 : FF := [(.row false (.rSpan p0)) :: (dT 15 []), dc, dc]
def fr78_4 : FF := [(.row false (.rSpan p0)) :: (dT 4 ((.row false (.rSpan p0)) :: (tL v82) :: (tL 0) :: (dT 8 []))), dc, dc]
def fr78_6 : FF := [(.row false (.rSpan p0)) :: (dT 4 ((.row false (.rSpan p0)) :: (tL v82) :: (tL v85) :: (dT 8 []))), dc, dc]
def fr78_7 : FF := [dT 2 ((tL 60) :: (dT 13 [])), dc, dc]
def fr78_8 : FF := [dc, dc, dc]
def fr78_9 : FF := [(.row false (.rSpan p0)) :: (dT 4 ((.row false (.rSpan p0)) :: (tL v82) :: (tL v83) :: (dT 8 []))), dc, dc]
theorem s78_5_t : X cp n i78_0 (fr78_9 p0 v82 v83) k = s78_5 cp n p0 v82 v83 (fun v85 => k .norm (fr78_6 p0 v82 v85)) (k .ret fr78_7) (k (.exit 0) fr78_8) := by kernel_rfl
theorem l78_10_t (cp : CP) (n : Nat) : ∀ (m : Nat) (p0 : (List SSpan)) (v82 v83 : Int) (k : KX R), loopN2 (X cp n i78_0) m (fr78_9 p0 v82 v83) k = l78_10 cp n m p0 v82 v83 (k .ret fr78_7) (k (.exit 0) fr78_8)
  | 0, _, _, _, _ => rfl
  | m + 1, p0, v82, v83, k => (loopN2_succ (X cp n i78_0) m (fr78_9 p0 v82 v83) k).trans ((s78_5_t cp n p0 v82 v83 (loopT (X cp n i78_0) m k)).trans ((show s78_5 cp n p0 v82 v83 (fun v85 => loopT (X cp n i78_0) m k .norm (fr78_6 p0 v82 v85)) (loopT (X cp n i78_0) m k .ret fr78_7) (loopT (X cp n i78_0) m k (.exit 0) fr78_8) = s78_5 cp n p0 v82 v83 (fun v85 => loopN2 (X cp n i78_0) m (fr78_9 p0 v82 v85) k) (k .ret fr78_7) (k (.exit 0) fr78_8) from by kernel_rfl).trans (congrArg (fun q => s78_5 cp n p0 v82 v83 q (k .ret fr78_7) (k (.exit 0) fr78_8)) (funext fun v85 => l78_10_t cp n m p0 v82 v85 k))))
theorem s78_11_t : X cp n i78_1 (fr78_4 p0 v82) k = s78_11 cp n p0 v82 (k .ret fr78_7) (k (.exit 0) fr78_8) := (show X cp n i78_1 (fr78_4 p0 v82) k = loopN2 (X cp n i78_0) n (fr78_9 p0 v82 0) k from by kernel_rfl).trans (l78_10_t cp n n p0 v82 0 k)
theorem s78_12_t : X cp n i78_2 (fr78_4 p0 v82) k = s78_12 cp n p0 v82 (k .norm fr78_8) (k .ret fr78_7) := (show X cp n i78_2 (fr78_4 p0 v82) k = X cp n i78_1 (fr78_4 p0 v82) (blkT 0 k) from by kernel_rfl).trans ((s78_11_t cp n p0 v82 (blkT 0 k)).trans (by kernel_rfl))
theorem s78_13_t : X cp n i78_3 (fr78_2 p0) k = s78_13 cp n p0 (k .norm fr78_8) (k .ret fr78_7) := ((fun c => (show X cp n (.seq (.reg g78_1) c) (fr78_2 p0) k = s78_3 cp n p0 (fun v82 => X cp n c (fr78_4 p0 v82) k) from by kernel_rfl)) i78_2).trans (congrArg (fun q => s78_3 cp n p0 q) (funext fun v82 => s78_12_t cp n p0 v82 k))
def fr78_15 : FF := [dT 2 ((tL 0) :: (dT 13 [])), dc, dc]
theorem s78_14_t : X cp n i78_4 fr78_8 k = s78_14 cp n (k .ret fr78_15) := by kernel_rfl
def fr78_16 : FF := [dT 2 ((tL v86) :: (dT 13 [])), dc, dc]
theorem s78_17_t : X cp n i78_5 (fr78_2 p0) k = s78_17 cp n p0 (fun v86 => k .ret (fr78_16 v86)) := (show X cp n i78_5 (fr78_2 p0) k = X cp n i78_3 (fr78_2 p0) (seqT (X cp n) i78_4 k) from by kernel_rfl).trans ((show X cp n i78_3 (fr78_2 p0) (seqT (X cp n) i78_4 k) = s78_13 cp n p0 (X cp n i78_4 fr78_8 k) (k .ret (fr78_16 60)) from (s78_13_t cp n p0 (seqT (X cp n) i78_4 k)).trans (by kernel_rfl)).trans (congrArg (fun q => s78_13 cp n p0 q (k .ret (fr78_16 60))) ((s78_14_t cp n  k).trans (show s78_14 cp n (k .ret fr78_15) = s78_14 cp n (k .ret (fr78_16 0)) from by kernel_rfl))))
def fr78_18 : FF := [dT 2 ((tL v87) :: (dT 13 [])), dc, dc]
theorem s78_19_t : X cp n i78_6 (fr78_2 p0) k = s78_19 cp n p0 (fun v87 => k .ret (fr78_18 v87)) := ((fun c => (show X cp n (.seq (.fin (.reg g78_0) [2] []) c) (fr78_2 p0) k = s78_1 cp n p0 (X cp n c (fr78_2 p0) k) from by kernel_rfl)) i78_5).trans (congrArg (fun q => s78_1 cp n p0 q) ((s78_17_t cp n p0 k).trans (show s78_17 cp n p0 (fun v86 => k .ret (fr78_16 v86)) = s78_17 cp n p0 (fun v86 => k .ret (fr78_18 v86)) from by kernel_rfl)))
theorem run78 (cp : CP) (n : Nat) (p0 : (List SSpan)) (k : Ret2 RW → Option R) : G78 cp (n + 1) p0 (fun r0 => k ⟨(tL r0), [], []⟩) = run2 U cp (callP cp n) n fn78 [.row false (.rSpan p0)] [] k := ((X_run (f := fn78) (av := [.row false (.rSpan p0)]) (cells := []) (code := i78_6) (fr := (fr78_2 p0)) (k := k) (by kernel_rfl) (fun K => by kernel_rfl)).trans ((s78_19_t cp n p0 (finK2 fn78 k)).trans (by kernel_rfl))).symm
end
/-! tideway/span.within -/
section
variable (cp : CP) (n : Nat) (k : KX R)
theorem run79 (cp : CP) (n : Nat) (p0 : (List SSpan)) (p1 : SSpan) (k : Ret2 RW → Option R) : G79 cp (n + 1) p0 p1 (fun r0 r1 => k ⟨.clo 83 [(6, 0), (8, 0)], [], [[.row false (.rSpan r0)], (eSpan r1)]⟩) = run2 U cp (callP cp n) n fn79 [.row false (.rSpan p0), .agg (eSpan p1)] [] k := by kernel_rfl
end
/-! tideway/span.Gaps -/
section
variable (cp : CP) (n : Nat) (p0 : (List SSpan)) (p1 : SSpan) (v93 : (List SSpan)) (v94 v95 v96 v97 : Int) (v98 : (List SSpan)) (v99 v100 v101 : Int) (v102 v103 : Bool) (v104 v105 : (List SSpan)) (v106 : Int) (v107 : (List SSpan)) (v108 : Int) (v109 : (List SSpan)) (v110 : Int) (v111 : (List SSpan)) (v112 v113 v114 : Int) (v115 : (List SSpan)) (v116 v117 : Int) (v118 : (List SSpan)) (v119 : Int) (v120 : (List SSpan)) (v121 : Int) (v122 : (List SSpan)) (v123 : Int) (v124 : (List SSpan)) (v125 : Int) (v126 : (List SSpan)) (v127 : Int) (v128 : (List SSpan)) (v129 : Int) (v130 : (List SSpan)) (v131 : Int) (v132 v133 v134 : (List SSpan)) (k : KX R)
def fr61_2 : FF := [(.row false (.rSpan p0)) :: (dT 2 ((.ptr 64 0) :: (dT 1 ((.ptr 67 0) :: (.ptr 69 0) :: (dT 9 []))))), dc, dc, dc, (.hdr 2) :: ((eSpan p1) ++ ((.hdr 1) :: (.row true (.rSpan [])) :: (.hdr 1) :: (tL p1.xFrom) :: (dT 9 []))), dc]
def fr61_3 : FF := [dT 4 ((.row false (.rSpan [])) :: (dT 11 [])), dc, dc, dc, dc, dc]
def w61_0 : Fr := dT 3 ((.ptr 64 0) :: (dT 1 ((.ptr 67 0) :: (.ptr 69 0) :: (dT 9 []))))
def w61_1 : Fr := dT 6 ((.clo 83 [(74, 0), (76, 0)]) :: (dT 9 []))
def w61_2 : Fr := (.hdr 2) :: ((eSpan p1) ++ ((.hdr 1) :: (.row true (.rSpan [])) :: (.hdr 1) :: (tL p1.xFrom) :: (dT 3 ((.hdr 1) :: (.row false (.rSpan v93)) :: (.hdr 2) :: (tL v94) :: (tL v95) :: (dT 1 [])))))
def fr61_5 : FF := [w61_0, w61_1, dc, dc, w61_2 p1 v93 v94 v95, dc]
def fr61_7 : FF := [w61_0, w61_1, dc, dc, dc, dc]
def y61_6 (cp : CP) (n : Nat) : List (TV RW) → FF → (FF → Option R) → Option R := rndT 4 [23] [64, 67, 69, 74, 76, 79, 82] fr61_7 (X cp n i61_2)
def fr61_9 : FF := [.yld :: (dT 1 ((.ptr 76 0) :: (dT 4 ((.row false (.rSpan v93)) :: (tL v96) :: (tL 0) :: (dT 6 []))))), dc, dc, dc, w61_2 p1 v93 v94 v95, dc]
def w61_3 : Fr := .yld :: (dT 1 ((.ptr 76 0) :: (dT 4 ((.row false (.rSpan v93)) :: (tL v96) :: (tL v97) :: (dT 6 [])))))
def w61_4 : Fr := (.hdr 2) :: ((eSpan p1) ++ ((.hdr 1) :: (.row true (.rSpan v98)) :: (.hdr 1) :: (tL v99) :: (dT 3 ((.hdr 1) :: (.row false (.rSpan v93)) :: (.hdr 2) :: (tL v94) :: (tL v95) :: (dT 1 [])))))
def fr61_11 : FF := [w61_3 v93 v96 v97, dc, dc, dc, w61_4 p1 v93 v94 v95 v98 v99, dc]
def fr61_12 : FF := [dc, dc, dc, dc, w61_4 p1 v93 v94 v95 v98 v99, dc]
def w61_5 : Fr := .yld :: (dT 1 ((.ptr 76 0) :: (dT 3 ((.ptr 82 0) :: (.row false (.rSpan v93)) :: (tL v96) :: (tL v97) :: (dT 6 [])))))
def w61_6 : Fr := dT 2 ((.hdr 2) :: (tL v100) :: (tL v101) :: (dT 11 []))
def fr61_14 : FF := [w61_5 v93 v96 v97, dc, dc, dc, w61_4 p1 v93 v94 v95 v98 v99, w61_6 v100 v101]
def w61_7 : Fr := dT 8 ([.ptr 82 0, (tL v100), .ptr 82 1, (tL v101), (tB v102), (tB true), .yld, .agg [(tL v100), (tL v101)]])
def fr61_16 : FF := [w61_5 v93 v96 v97, w61_7 v100 v101 v102, dc, dc, w61_4 p1 v93 v94 v95 v98 v99, w61_6 v100 v101]
def fr61_17 : FF := [w61_5 v93 v96 v97, dT 8 ([.ptr 82 0, (tL v100), .ptr 82 1, (tL v101), (tB v103), (tB false), .tup [], .tup []]), dc, dc, w61_4 p1 v93 v94 v95 v98 v99, w61_6 v100 v101]
theorem s61_15_t (cp : CP) (n : Nat) (p1 : SSpan) (v93 : (List SSpan)) (v94 v95 v96 v97 : Int) (v98 : (List SSpan)) (v99 v100 v101 : Int) (A B : FF → Option R) : (gF (fr61_14 p1 v93 v94 v95 v96 v97 v98 v99 v100 v101) fun l => steps2 U cp (callP cp n) g61_10041 l fun l1 => yGuard2 (some (29, true)) l1 (A l1) (B l1)) = s61_15 cp n p1 v93 v94 v95 v96 v97 v98 v99 v100 v101 (fun v102 => A (fr61_16 p1 v93 v94 v95 v96 v97 v98 v99 v100 v101 v102)) (fun v103 => B (fr61_17 p1 v93 v94 v95 v96 v97 v98 v99 v100 v101 v103)) := by kernel_rfl
def w61_8 : Fr := (.hdr 2) :: ((eSpan p1) ++ ((.hdr 1) :: (.row true (.rSpan v104)) :: (.hdr 1) :: (tL v101) :: (dT 3 ((.hdr 1) :: (.row false (.rSpan v93)) :: (.hdr 2) :: (tL v94) :: (tL v95) :: (dT 1 [])))))
def fr61_19 : FF := [w61_0, w61_1, dc, dc, w61_8 p1 v93 v94 v95 v101 v104, w61_6 v100 v101]
def fr61_20 : FF := [w61_0, dT 6 ((.clo 83 [(74, 0), (76, 0)]) :: (.agg [(tL v100), (tL v101)]) :: (dT 8 [])), dc, dc, w61_4 p1 v93 v94 v95 v98 v99, w61_6 v100 v101]
theorem s61_18_t : X cp n i61_2 (fr61_20 p1 v93 v94 v95 v98 v99 v100 v101) k = s61_18 cp n p1 v93 v94 v95 v98 v99 v100 v101 (fun v104 => k .norm (fr61_19 p1 v93 v94 v95 v100 v101 v104)) := by kernel_rfl
def fr61_22 : FF := [w61_5 v93 v96 v97, w61_7 v100 v101 v102, (tB true) :: (dT 15 []), dc, w61_8 p1 v93 v94 v95 v101 v104, w61_6 v100 v101]
theorem q61_21_t (cp : CP) (n : Nat) (p1 : SSpan) (v93 : (List SSpan)) (v94 v95 v96 v97 : Int) (v98 : (List SSpan)) (v99 v100 v101 : Int) (v102 : Bool) (K : FF → Option R) : yRun2 (y61_6 cp n) (.s 30) [.s 31] 32 (fr61_16 p1 v93 v94 v95 v96 v97 v98 v99 v100 v101 v102) K = s61_18 cp n p1 v93 v94 v95 v98 v99 v100 v101 (fun v104 => K (fr61_22 p1 v93 v94 v95 v96 v97 v100 v101 v102 v104)) := ((fun x => (show yRun2 (rndT 4 [23] [64, 67, 69, 74, 76, 79, 82] fr61_7 x) (.s 30) [.s 31] 32 (fr61_16 p1 v93 v94 v95 v96 v97 v98 v99 v100 v101 v102) K = x (fr61_20 p1 v93 v94 v95 v98 v99 v100 v101) (roundT 4 (fr61_16 p1 v93 v94 v95 v96 v97 v98 v99 v100 v101 v102) (fun l2 => putO l2 (some 32) (.sc (.bool true)) K)) from by kernel_rfl)) (X cp n i61_2)).trans ((s61_18_t cp n p1 v93 v94 v95 v98 v99 v100 v101 (roundT 4 (fr61_16 p1 v93 v94 v95 v96 v97 v98 v99 v100 v101 v102) (fun l2 => putO l2 (some 32) (.sc (.bool true)) K))).trans (by kernel_rfl))
def w61_9 : Fr := (.hdr 2) :: ((eSpan p1) ++ ((.hdr 1) :: (.row true (.rSpan v105)) :: (.hdr 1) :: (tL v106) :: (dT 3 ((.hdr 1) :: (.row false (.rSpan v93)) :: (.hdr 2) :: (tL v94) :: (tL v95) :: (dT 1 [])))))
def fr61_23 : FF := [w61_3 v93 v96 v97, dc, dT 2 ((tB false) :: (dT 13 [])), dc, w61_9 p1 v93 v94 v95 v105 v106, dc]
theorem s61_24_t : XI cp n (y61_6 cp n) i61_4 (fr61_14 p1 v93 v94 v95 v96 v97 v98 v99 v100 v101) k = s61_24 cp n p1 v93 v94 v95 v96 v97 v98 v99 v100 v101 (fun v105 v106 => k .norm (fr61_23 p1 v93 v94 v95 v96 v97 v105 v106)) := (show XI cp n (y61_6 cp n) i61_4 (fr61_14 p1 v93 v94 v95 v96 v97 v98 v99 v100 v101) k = gF (fr61_14 p1 v93 v94 v95 v96 v97 v98 v99 v100 v101) fun l => steps2 U cp (callP cp n) g61_10041 l fun l1 => yGuard2 (some (29, true)) l1 ((fun l1 => yRun2 (y61_6 cp n) (.s 30) [.s 31] 32 l1 (fun l2 => steps2 U cp (callP cp n) g61_10042 l2 ((clrT [6, 24, 25, 26, 27, 28, 29, 30, 31, 32, 33] [(82, 2)] k) .norm))) l1) ((fun l1 => putO l1 (some 32) (.tup []) fun l2 => steps2 U cp (callP cp n) g61_10042 l2 ((clrT [6, 24, 25, 26, 27, 28, 29, 30, 31, 32, 33] [(82, 2)] k) .norm)) l1) from by kernel_rfl).trans ((s61_15_t cp n p1 v93 v94 v95 v96 v97 v98 v99 v100 v101 (fun l1 => yRun2 (y61_6 cp n) (.s 30) [.s 31] 32 l1 (fun l2 => steps2 U cp (callP cp n) g61_10042 l2 ((clrT [6, 24, 25, 26, 27, 28, 29, 30, 31, 32, 33] [(82, 2)] k) .norm))) (fun l1 => putO l1 (some 32) (.tup []) fun l2 => steps2 U cp (callP cp n) g61_10042 l2 ((clrT [6, 24, 25, 26, 27, 28, 29, 30, 31, 32, 33] [(82, 2)] k) .norm))).trans (cg2 (f := s61_15 cp n p1 v93 v94 v95 v96 v97 v98 v99 v100 v101) (funext fun v102 => (q61_21_t cp n p1 v93 v94 v95 v96 v97 v98 v99 v100 v101 v102 (fun l2 => steps2 U cp (callP cp n) g61_10042 l2 ((clrT [6, 24, 25, 26, 27, 28, 29, 30, 31, 32, 33] [(82, 2)] k) .norm))).trans (show s61_18 cp n p1 v93 v94 v95 v98 v99 v100 v101 (fun v104 => (fun l2 => steps2 U cp (callP cp n) g61_10042 l2 ((clrT [6, 24, 25, 26, 27, 28, 29, 30, 31, 32, 33] [(82, 2)] k) .norm)) (fr61_22 p1 v93 v94 v95 v96 v97 v100 v101 v102 v104)) = s61_18 cp n p1 v93 v94 v95 v98 v99 v100 v101 (fun v104 => k .norm (fr61_23 p1 v93 v94 v95 v96 v97 v104 v101)) from by kernel_rfl)) (funext fun v103 => (show (fun l1 => putO l1 (some 32) (.tup []) fun l2 => steps2 U cp (callP cp n) g61_10042 l2 ((clrT [6, 24, 25, 26, 27, 28, 29, 30, 31, 32, 33] [(82, 2)] k) .norm)) (fr61_17 p1 v93 v94 v95 v96 v97 v98 v99 v100 v101 v103) = k .norm (fr61_23 p1 v93 v94 v95 v96 v97 v98 v99) from by kernel_rfl))))
def fr61_26 : FF := [w61_3 v93 v96 v97, dc, dc, dc, w61_9 p1 v93 v94 v95 v105 v106, dc]
theorem s61_25_t : XI cp n (y61_6 cp n) i61_5 (fr61_23 p1 v93 v94 v95 v96 v97 v105 v106) k = s61_25 cp n p1 v93 v94 v95 v96 v97 v105 v106 (k .norm (fr61_26 p1 v93 v94 v95 v96 v97 v105 v106)) := by kernel_rfl
def fr61_27 : FF := [w61_3 v93 v96 v97, dc, dc, dc, (.hdr 2) :: ((eSpan p1) ++ ((.hdr 1) :: (.row true (.rSpan v107)) :: (.hdr 1) :: (tL v108) :: (dT 3 ((.hdr 1) :: (.row false (.rSpan v93)) :: (.hdr 2) :: (tL v94) :: (tL v95) :: (dT 1 []))))), dc]
theorem s61_28_t : XI cp n (y61_6 cp n) i61_6 (fr61_14 p1 v93 v94 v95 v96 v97 v98 v99 v100 v101) k = s61_28 cp n p1 v93 v94 v95 v96 v97 v98 v99 v100 v101 (fun v107 v108 => k .norm (fr61_27 p1 v93 v94 v95 v96 v97 v107 v108)) := (show XI cp n (y61_6 cp n) i61_6 (fr61_14 p1 v93 v94 v95 v96 v97 v98 v99 v100 v101) k = XI cp n (y61_6 cp n) i61_4 (fr61_14 p1 v93 v94 v95 v96 v97 v98 v99 v100 v101) (seqT (XI cp n (y61_6 cp n)) i61_5 k) from by kernel_rfl).trans ((show XI cp n (y61_6 cp n) i61_4 (fr61_14 p1 v93 v94 v95 v96 v97 v98 v99 v100 v101) (seqT (XI cp n (y61_6 cp n)) i61_5 k) = s61_24 cp n p1 v93 v94 v95 v96 v97 v98 v99 v100 v101 (fun v105 v106 => XI cp n (y61_6 cp n) i61_5 (fr61_23 p1 v93 v94 v95 v96 v97 v105 v106) k) from (s61_24_t cp n p1 v93 v94 v95 v96 v97 v98 v99 v100 v101 (seqT (XI cp n (y61_6 cp n)) i61_5 k)).trans (by kernel_rfl)).trans (congrArg (fun q => s61_24 cp n p1 v93 v94 v95 v96 v97 v98 v99 v100 v101 q) (funext fun v105 => funext fun v106 => (s61_25_t cp n p1 v93 v94 v95 v96 v97 v105 v106 k).trans (show s61_25 cp n p1 v93 v94 v95 v96 v97 v105 v106 (k .norm (fr61_26 p1 v93 v94 v95 v96 v97 v105 v106)) = s61_25 cp n p1 v93 v94 v95 v96 v97 v105 v106 (k .norm (fr61_27 p1 v93 v94 v95 v96 v97 v105 v106)) from by kernel_rfl))))
def fr61_29 : FF := [w61_3 v93 v96 v97, dc, dc, dc, (.hdr 2) :: ((eSpan p1) ++ ((.hdr 1) :: (.row true (.rSpan v109)) :: (.hdr 1) :: (tL v110) :: (dT 3 ((.hdr 1) :: (.row false (.rSpan v93)) :: (.hdr 2) :: (tL v94) :: (tL v95) :: (dT 1 []))))), dc]
theorem s61_30_t : XI cp n (y61_6 cp n) i61_7 (fr61_11 p1 v93 v94 v95 v96 v97 v98 v99) k = s61_30 cp n p1 v93 v94 v95 v96 v97 v98 v99 (fun v109 v110 => k .norm (fr61_29 p1 v93 v94 v95 v96 v97 v109 v110)) := ((fun c => (show XI cp n (y61_6 cp n) (.seq (.fin (.reg g61_1002) [11, 12] []) (.seq (.fin (.reg g61_1003) [5, 13, 14, 15, 16, 17, 18, 19, 20, 21, 22, 23] [(79, 2)]) c)) (fr61_11 p1 v93 v94 v95 v96 v97 v98 v99) k = s61_13 cp n p1 v93 v94 v95 v96 v97 v98 v99 (fun v100 v101 => XI cp n (y61_6 cp n) c (fr61_14 p1 v93 v94 v95 v96 v97 v98 v99 v100 v101) k) from by kernel_rfl)) i61_6).trans (congrArg (fun q => s61_13 cp n p1 v93 v94 v95 v96 v97 v98 v99 q) (funext fun v100 => funext fun v101 => (s61_28_t cp n p1 v93 v94 v95 v96 v97 v98 v99 v100 v101 k).trans (show s61_28 cp n p1 v93 v94 v95 v96 v97 v98 v99 v100 v101 (fun v107 v108 => k .norm (fr61_27 p1 v93 v94 v95 v96 v97 v107 v108)) = s61_28 cp n p1 v93 v94 v95 v96 v97 v98 v99 v100 v101 (fun v107 v108 => k .norm (fr61_29 p1 v93 v94 v95 v96 v97 v107 v108)) from by kernel_rfl)))
def w61_10 : Fr := (.hdr 2) :: ((eSpan p1) ++ ((.hdr 1) :: (.row true (.rSpan v111)) :: (.hdr 1) :: (tL v112) :: (dT 3 ((.hdr 1) :: (.row false (.rSpan v93)) :: (.hdr 2) :: (tL v94) :: (tL v95) :: (dT 1 [])))))
def fr61_31 : FF := [w61_3 v93 v96 v97, dc, dc, dc, w61_10 p1 v93 v94 v95 v111 v112, dc]
theorem s61_32_t : XI cp n (y61_6 cp n) i61_8 (fr61_11 p1 v93 v94 v95 v96 v97 v98 v99) k = s61_32 cp n p1 v93 v94 v95 v96 v97 v98 v99 (fun v111 v112 => k .norm (fr61_31 p1 v93 v94 v95 v96 v97 v111 v112)) := (show XI cp n (y61_6 cp n) i61_8 (fr61_11 p1 v93 v94 v95 v96 v97 v98 v99) k = XI cp n (y61_6 cp n) i61_7 (fr61_11 p1 v93 v94 v95 v96 v97 v98 v99) (blkT 1 k) from by kernel_rfl).trans ((s61_30_t cp n p1 v93 v94 v95 v96 v97 v98 v99 (blkT 1 k)).trans (by kernel_rfl))
def fr61_34 : FF := [.yld :: (dT 1 ((.ptr 76 0) :: (dT 4 ((.row false (.rSpan v93)) :: (tL v96) :: (tL v113) :: (dT 6 []))))), dc, dc, dc, w61_10 p1 v93 v94 v95 v111 v112, dc]
theorem s61_33_t : XI cp n (y61_6 cp n) i61_9 (fr61_31 p1 v93 v94 v95 v96 v97 v111 v112) k = s61_33 cp n p1 v93 v94 v95 v96 v97 v111 v112 (fun v113 => k .norm (fr61_34 p1 v93 v94 v95 v96 v111 v112 v113)) := by kernel_rfl
def fr61_35 : FF := [.yld :: (dT 1 ((.ptr 76 0) :: (dT 4 ((.row false (.rSpan v93)) :: (tL v96) :: (tL v114) :: (dT 6 []))))), dc, dc, dc, (.hdr 2) :: ((eSpan p1) ++ ((.hdr 1) :: (.row true (.rSpan v115)) :: (.hdr 1) :: (tL v116) :: (dT 3 ((.hdr 1) :: (.row false (.rSpan v93)) :: (.hdr 2) :: (tL v94) :: (tL v95) :: (dT 1 []))))), dc]
theorem s61_36_t : XI cp n (y61_6 cp n) i61_10 (fr61_11 p1 v93 v94 v95 v96 v97 v98 v99) k = s61_36 cp n p1 v93 v94 v95 v96 v97 v98 v99 (fun v114 v115 v116 => k .norm (fr61_35 p1 v93 v94 v95 v96 v114 v115 v116)) := (show XI cp n (y61_6 cp n) i61_10 (fr61_11 p1 v93 v94 v95 v96 v97 v98 v99) k = XI cp n (y61_6 cp n) i61_8 (fr61_11 p1 v93 v94 v95 v96 v97 v98 v99) (seqT (XI cp n (y61_6 cp n)) i61_9 k) from by kernel_rfl).trans ((show XI cp n (y61_6 cp n) i61_8 (fr61_11 p1 v93 v94 v95 v96 v97 v98 v99) (seqT (XI cp n (y61_6 cp n)) i61_9 k) = s61_32 cp n p1 v93 v94 v95 v96 v97 v98 v99 (fun v111 v112 => XI cp n (y61_6 cp n) i61_9 (fr61_31 p1 v93 v94 v95 v96 v97 v111 v112) k) from (s61_32_t cp n p1 v93 v94 v95 v96 v97 v98 v99 (seqT (XI cp n (y61_6 cp n)) i61_9 k)).trans (by kernel_rfl)).trans (congrArg (fun q => s61_32 cp n p1 v93 v94 v95 v96 v97 v98 v99 q) (funext fun v111 => funext fun v112 => (s61_33_t cp n p1 v93 v94 v95 v96 v97 v111 v112 k).trans (show s61_33 cp n p1 v93 v94 v95 v96 v97 v111 v112 (fun v113 => k .norm (fr61_34 p1 v93 v94 v95 v96 v111 v112 v113)) = s61_33 cp n p1 v93 v94 v95 v96 v97 v111 v112 (fun v113 => k .norm (fr61_35 p1 v93 v94 v95 v96 v113 v111 v112)) from by kernel_rfl))))
def fr61_37 : FF := [.yld :: (dT 1 ((.ptr 76 0) :: (dT 4 ((.row false (.rSpan v93)) :: (tL v96) :: (tL v117) :: (dT 6 []))))), dc, dc, dc, (.hdr 2) :: ((eSpan p1) ++ ((.hdr 1) :: (.row true (.rSpan v118)) :: (.hdr 1) :: (tL v119) :: (dT 3 ((.hdr 1) :: (.row false (.rSpan v93)) :: (.hdr 2) :: (tL v94) :: (tL v95) :: (dT 1 []))))), dc]
theorem s61_38_t : XI cp n (y61_6 cp n) i61_11 (fr61_11 p1 v93 v94 v95 v96 v97 v98 v99) k = s61_38 cp n p1 v93 v94 v95 v96 v97 v98 v99 (fun v117 v118 v119 => k .norm (fr61_37 p1 v93 v94 v95 v96 v117 v118 v119)) (k (.exit 0) (fr61_12 p1 v93 v94 v95 v98 v99)) := ((fun c => (show XI cp n (y61_6 cp n) (.seq (.reg g61_1001) (.seq (.fin (.cond (.s 10) (.skip) (.clr [0, 2, 7, 8, 9, 10] [] (.exit 0))) [10] []) c)) (fr61_11 p1 v93 v94 v95 v96 v97 v98 v99) k = s61_10 cp n p1 v93 v94 v95 v96 v97 v98 v99 (XI cp n (y61_6 cp n) c (fr61_11 p1 v93 v94 v95 v96 v97 v98 v99) k) (k (.exit 0) (fr61_12 p1 v93 v94 v95 v98 v99)) from by kernel_rfl)) i61_10).trans (congrArg (fun q => s61_10 cp n p1 v93 v94 v95 v96 v97 v98 v99 q (k (.exit 0) (fr61_12 p1 v93 v94 v95 v98 v99))) ((s61_36_t cp n p1 v93 v94 v95 v96 v97 v98 v99 k).trans (show s61_36 cp n p1 v93 v94 v95 v96 v97 v98 v99 (fun v114 v115 v116 => k .norm (fr61_35 p1 v93 v94 v95 v96 v114 v115 v116)) = s61_36 cp n p1 v93 v94 v95 v96 v97 v98 v99 (fun v114 v115 v116 => k .norm (fr61_37 p1 v93 v94 v95 v96 v114 v115 v116)) from by kernel_rfl)))
def fr61_39 : FF := [dc, dc, dc, dc, (.hdr 2) :: ((eSpan p1) ++ ((.hdr 1) :: (.row true (.rSpan v120)) :: (.hdr 1) :: (tL v121) :: (dT 3 ((.hdr 1) :: (.row false (.rSpan v93)) :: (.hdr 2) :: (tL v94) :: (tL v95) :: (dT 1 []))))), dc]
theorem l61_40_t (cp : CP) (n : Nat) : ∀ (m : Nat) (p1 : SSpan) (v93 : (List SSpan)) (v94 v95 v96 v97 : Int) (v98 : (List SSpan)) (v99 : Int) (k : KX R), loopN2 (XI cp n (y61_6 cp n) i61_11) m (fr61_11 p1 v93 v94 v95 v96 v97 v98 v99) k = l61_40 cp n m p1 v93 v94 v95 v96 v97 v98 v99 (fun v120 v121 => k (.exit 0) (fr61_39 p1 v93 v94 v95 v120 v121))
  | 0, _, _, _, _, _, _, _, _, _ => rfl
  | m + 1, p1, v93, v94, v95, v96, v97, v98, v99, k => (loopN2_succ (XI cp n (y61_6 cp n) i61_11) m (fr61_11 p1 v93 v94 v95 v96 v97 v98 v99) k).trans ((s61_38_t cp n p1 v93 v94 v95 v96 v97 v98 v99 (loopT (XI cp n (y61_6 cp n) i61_11) m k)).trans ((show s61_38 cp n p1 v93 v94 v95 v96 v97 v98 v99 (fun v117 v118 v119 => loopT (XI cp n (y61_6 cp n) i61_11) m k .norm (fr61_37 p1 v93 v94 v95 v96 v117 v118 v119)) (loopT (XI cp n (y61_6 cp n) i61_11) m k (.exit 0) (fr61_12 p1 v93 v94 v95 v98 v99)) = s61_38 cp n p1 v93 v94 v95 v96 v97 v98 v99 (fun v117 v118 v119 => loopN2 (XI cp n (y61_6 cp n) i61_11) m (fr61_11 p1 v93 v94 v95 v96 v117 v118 v119) k) (k (.exit 0) (fr61_39 p1 v93 v94 v95 v98 v99)) from by kernel_rfl).trans (congrArg (fun q => s61_38 cp n p1 v93 v94 v95 v96 v97 v98 v99 q (k (.exit 0) (fr61_39 p1 v93 v94 v95 v98 v99))) (funext fun v117 => funext fun v118 => funext fun v119 => l61_40_t cp n m p1 v93 v94 v95 v96 v117 v118 v119 k))))
theorem s61_41_t : XI cp n (y61_6 cp n) i61_12 (fr61_9 p1 v93 v94 v95 v96) k = s61_41 cp n p1 v93 v94 v95 v96 (fun v120 v121 => k (.exit 0) (fr61_39 p1 v93 v94 v95 v120 v121)) := (show XI cp n (y61_6 cp n) i61_12 (fr61_9 p1 v93 v94 v95 v96) k = loopN2 (XI cp n (y61_6 cp n) i61_11) n (fr61_11 p1 v93 v94 v95 v96 0 [] p1.xFrom) k from by kernel_rfl).trans (l61_40_t cp n n p1 v93 v94 v95 v96 0 [] p1.xFrom k)
def fr61_42 : FF := [dc, dc, dc, dc, (.hdr 2) :: ((eSpan p1) ++ ((.hdr 1) :: (.row true (.rSpan v122)) :: (.hdr 1) :: (tL v123) :: (dT 3 ((.hdr 1) :: (.row false (.rSpan v93)) :: (.hdr 2) :: (tL v94) :: (tL v95) :: (dT 1 []))))), dc]
theorem s61_43_t : XI cp n (y61_6 cp n) i61_13 (fr61_9 p1 v93 v94 v95 v96) k = s61_43 cp n p1 v93 v94 v95 v96 (fun v122 v123 => k .norm (fr61_42 p1 v93 v94 v95 v122 v123)) := (show XI cp n (y61_6 cp n) i61_13 (fr61_9 p1 v93 v94 v95 v96) k = XI cp n (y61_6 cp n) i61_12 (fr61_9 p1 v93 v94 v95 v96) (blkT 0 k) from by kernel_rfl).trans ((s61_41_t cp n p1 v93 v94 v95 v96 (blkT 0 k)).trans (by kernel_rfl))
def fr61_44 : FF := [dc, dc, dc, dc, (.hdr 2) :: ((eSpan p1) ++ ((.hdr 1) :: (.row true (.rSpan v124)) :: (.hdr 1) :: (tL v125) :: (dT 3 ((.hdr 1) :: (.row false (.rSpan v93)) :: (.hdr 2) :: (tL v94) :: (tL v95) :: (dT 1 []))))), dc]
def fr61_46 : FF := [.yld :: (.ptr 74 0) :: (.ptr 76 0) :: (dT 13 []), dc, dc, dc, w61_2 p1 v93 v94 v95, dc]
theorem s61_45_t : XI cp n (y61_6 cp n) i61_3 (fr61_46 p1 v93 v94 v95) k = s61_45 cp n p1 v93 v94 v95 (fun v124 v125 => k .norm (fr61_44 p1 v93 v94 v95 v124 v125)) := ((fun c => (show XI cp n (y61_6 cp n) (.seq (.fin (.reg g61_1000) [1] []) c) (fr61_46 p1 v93 v94 v95) k = s61_8 cp n p1 v93 v94 v95 (fun v96 => XI cp n (y61_6 cp n) c (fr61_9 p1 v93 v94 v95 v96) k) from by kernel_rfl)) i61_13).trans (congrArg (fun q => s61_8 cp n p1 v93 v94 v95 q) (funext fun v96 => (s61_43_t cp n p1 v93 v94 v95 v96 k).trans (show s61_43 cp n p1 v93 v94 v95 v96 (fun v122 v123 => k .norm (fr61_42 p1 v93 v94 v95 v122 v123)) = s61_43 cp n p1 v93 v94 v95 v96 (fun v122 v123 => k .norm (fr61_44 p1 v93 v94 v95 v122 v123)) from by kernel_rfl)))
def fr61_47 : FF := [w61_0, dc, dc, dc, (.hdr 2) :: ((eSpan p1) ++ ((.hdr 1) :: (.row true (.rSpan v126)) :: (.hdr 1) :: (tL v127) :: (dT 9 []))), dc]
theorem s61_48_t : X cp n i61_14 (fr61_5 p1 v93 v94 v95) k = s61_48 cp n p1 v93 v94 v95 (fun v126 v127 => k .norm (fr61_47 p1 v126 v127)) := (show X cp n i61_14 (fr61_5 p1 v93 v94 v95) k = XI cp n (roundK2 4 [23] [64, 67, 69, 74, 76, 79, 82] (fr61_5 p1 v93 v94 v95) (X cp n i61_0) (X cp n i61_1)) i61_3 (fr61_46 p1 v93 v94 v95) (rfnT 4 (fr61_5 p1 v93 v94 v95) (clrT [22] [(74, 1), (76, 2)] k)) from rfn_eq (v := .clo 83 [(74, 0), (76, 0)]) (by kernel_rfl) (by kernel_rfl) (by kernel_rfl) _ _ _).trans ((congrArg (fun Y => XI cp n Y i61_3 (fr61_46 p1 v93 v94 v95) (rfnT 4 (fr61_5 p1 v93 v94 v95) (clrT [22] [(74, 1), (76, 2)] k))) ((rnd_eq 4 [23] [64, 67, 69, 74, 76, 79, 82] (fr61_5 p1 v93 v94 v95) i61_0 i61_1).trans (show rndT 4 [23] [64, 67, 69, 74, 76, 79, 82] (fr61_5 p1 v93 v94 v95) (X cp n i61_2) = (y61_6 cp n) from by kernel_rfl))).trans ((s61_45_t cp n p1 v93 v94 v95 (rfnT 4 (fr61_5 p1 v93 v94 v95) (clrT [22] [(74, 1), (76, 2)] k))).trans (by kernel_rfl)))
def fr61_49 : FF := [w61_0, dc, dc, dc, (.hdr 2) :: ((eSpan p1) ++ ((.hdr 1) :: (.row true (.rSpan v128)) :: (.hdr 1) :: (tL v129) :: (dT 9 []))), dc]
theorem s61_50_t : X cp n i61_15 (fr61_5 p1 v93 v94 v95) k = s61_50 cp n p1 v93 v94 v95 (fun v128 v129 => k .norm (fr61_49 p1 v128 v129)) := (show X cp n i61_15 (fr61_5 p1 v93 v94 v95) k = X cp n i61_14 (fr61_5 p1 v93 v94 v95) (blkT 0 k) from by kernel_rfl).trans ((s61_48_t cp n p1 v93 v94 v95 (blkT 0 k)).trans (by kernel_rfl))
def fr61_51 : FF := [w61_0, dc, dc, dc, (.hdr 2) :: ((eSpan p1) ++ ((.hdr 1) :: (.row true (.rSpan v130)) :: (.hdr 1) :: (tL v131) :: (dT 9 []))), dc]
theorem s61_52_t : X cp n i61_16 (fr61_2 p0 p1) k = s61_52 cp n p0 p1 (fun v130 v131 => k .norm (fr61_51 p1 v130 v131)) := ((fun c => (show X cp n (.seq (.fin (.reg g61_5) [0, 20, 21] []) c) (fr61_2 p0 p1) k = s61_4 cp n p0 p1 (fun v93 v94 v95 => X cp n c (fr61_5 p1 v93 v94 v95) k) from by kernel_rfl)) i61_15).trans (congrArg (fun q => s61_4 cp n p0 p1 q) (funext fun v93 => funext fun v94 => funext fun v95 => (s61_50_t cp n p1 v93 v94 v95 k).trans (show s61_50 cp n p1 v93 v94 v95 (fun v128 v129 => k .norm (fr61_49 p1 v128 v129)) = s61_50 cp n p1 v93 v94 v95 (fun v128 v129 => k .norm (fr61_51 p1 v128 v129)) from by kernel_rfl)))
def fr61_54 : FF := [dT 4 ((.row false (.rSpan v132)) :: (dT 11 [])), dc, dc, dc, dc, dc]
theorem s61_53_t : X cp n i61_17 (fr61_51 p1 v130 v131) k = s61_53 cp n p1 v130 v131 (fun v132 => k .ret (fr61_54 v132)) := by kernel_rfl
def fr61_55 : FF := [dT 4 ((.row false (.rSpan v133)) :: (dT 11 [])), dc, dc, dc, dc, dc]
theorem s61_56_t : X cp n i61_18 (fr61_2 p0 p1) k = s61_56 cp n p0 p1 (fun v133 => k .ret (fr61_55 v133)) := (show X cp n i61_18 (fr61_2 p0 p1) k = X cp n i61_16 (fr61_2 p0 p1) (seqT (X cp n) i61_17 k) from by kernel_rfl).trans ((show X cp n i61_16 (fr61_2 p0 p1) (seqT (X cp n) i61_17 k) = s61_52 cp n p0 p1 (fun v130 v131 => X cp n i61_17 (fr61_51 p1 v130 v131) k) from (s61_52_t cp n p0 p1 (seqT (X cp n) i61_17 k)).trans (by kernel_rfl)).trans (congrArg (fun q => s61_52 cp n p0 p1 q) (funext fun v130 => funext fun v131 => (s61_53_t cp n p1 v130 v131 k).trans (show s61_53 cp n p1 v130 v131 (fun v132 => k .ret (fr61_54 v132)) = s61_53 cp n p1 v130 v131 (fun v132 => k .ret (fr61_55 v132)) from by kernel_rfl))))
def fr61_57 : FF := [dT 4 ((.row false (.rSpan v134)) :: (dT 11 [])), dc, dc, dc, dc, dc]
def fr61_59 : FF := [(.row false (.rSpan p0)) :: (.agg (eSpan p1)) :: (dT 14 []), dc, dc, dc, dc, dc]
theorem s61_58_t : X cp n i61_19 (fr61_59 p0 p1) k = s61_58 cp n p0 p1 (fun v134 => k .ret (fr61_57 v134)) := ((fun c => (show X cp n (.seq (.fin (.reg g61_0) [1, 4] []) (.seq (.seq (.fin (.reg g61_1) [8, 9, 10, 11, 12, 13, 14, 15, 16] []) (.fin (.cond (.s 17) (.seq (.fin (.reg g61_2) [0, 3, 17] [(64, 2)]) (.ret)) (.skip)) [17] [])) (.seq (.reg g61_3) (.seq (.fin (.reg g61_4) [18, 19] []) c)))) (fr61_59 p0 p1) k = s61_1 cp n p0 p1 (X cp n c (fr61_2 p0 p1) k) (k .ret (fr61_57 [])) from by kernel_rfl)) i61_18).trans (congrArg (fun q => s61_1 cp n p0 p1 q (k .ret (fr61_57 []))) ((s61_56_t cp n p0 p1 k).trans (show s61_56 cp n p0 p1 (fun v133 => k .ret (fr61_55 v133)) = s61_56 cp n p0 p1 (fun v133 => k .ret (fr61_57 v133)) from by kernel_rfl)))
theorem run61 (cp : CP) (n : Nat) (p0 : (List SSpan)) (p1 : SSpan) (k : Ret2 RW → Option R) : G61 cp (n + 1) p0 p1 (fun r0 => k ⟨.row false (.rSpan r0), [], []⟩) = run2 U cp (callP cp n) n fn61 [.row false (.rSpan p0), .agg (eSpan p1)] [] k := ((X_run (f := fn61) (av := [.row false (.rSpan p0), .agg (eSpan p1)]) (cells := []) (code := i61_19) (fr := (fr61_59 p0 p1)) (k := k) (by kernel_rfl) (fun K => by kernel_rfl)).trans ((s61_58_t cp n p0 p1 (finK2 fn61 k)).trans (by kernel_rfl))).symm
end
/-! tideway/recv.put$1 -/
section
variable (cp : CP) (n : Nat) (k : KX R)
theorem run74 (cp : CP) (n : Nat) (p0 : SPiece) (p1 : Int) (k : Ret2 RW → Option R) : G74 cp (n + 1) p0 p1 (fun r0 => k ⟨(tL r0), [], []⟩) = run2 U cp (callP cp n) n fn74 [.agg (ePiece p0), (tL p1)] [] k := by kernel_rfl
end
/-! slices.BinarySearchFunc[[]tideway/api.Piece,tideway/api.Piece,int] -/
section
variable (cp : CP) (n : Nat) (p0 : (List SPiece)) (p1 v138 v139 v140 v142 v143 v144 v145 : Int) (v147 : Bool) (v148 : Int) (v149 : Bool) (v150 : Int) (v151 : Bool) (k : KX R)
def fr1031_2 : FF := [(.row false (.rPiece p0)) :: (tL p1) :: (.clo 74 []) :: (dT 5 ((tL v138) :: (tL 0) :: (tL v138) :: (dT 5 []))), dc, dc, dc]
def fr1031_4 : FF := [(.row false (.rPiece p0)) :: (tL p1) :: (.clo 74 []) :: (dT 5 ((tL v138) :: (tL v142) :: (tL v143) :: (dT 5 []))), dc, dc, dc]
def fr1031_5 : FF := [(.row false (.rPiece p0)) :: (tL p1) :: (.clo 74 []) :: (dT 5 ((tL v138) :: (tL v139) :: (dT 6 []))), dc, dc, dc]
def fr1031_6 : FF := [(.row false (.rPiece p0)) :: (tL p1) :: (.clo 74 []) :: (dT 5 ((tL v138) :: (tL v139) :: (tL v140) :: (dT 5 []))), dc, dc, dc]
theorem s1031_3_t : X cp n i1031_0 (fr1031_6 p0 p1 v138 v139 v140) k = s1031_3 cp n p0 p1 v138 v139 v140 (fun v142 v143 => k .norm (fr1031_4 p0 p1 v138 v142 v143)) (k (.exit 0) (fr1031_5 p0 p1 v138 v139)) := by kernel_rfl
def fr1031_7 : FF := [(.row false (.rPiece p0)) :: (tL p1) :: (.clo 74 []) :: (dT 5 ((tL v138) :: (tL v144) :: (dT 6 []))), dc, dc, dc]
theorem l1031_8_t (cp : CP) (n : Nat) : ∀ (m : Nat) (p0 : (List SPiece)) (p1 v138 v139 v140 : Int) (k : KX R), loopN2 (X cp n i1031_0) m (fr1031_6 p0 p1 v138 v139 v140) k = l1031_8 cp n m p0 p1 v138 v139 v140 (fun v144 => k (.exit 0) (fr1031_7 p0 p1 v138 v144))
  | 0, _, _, _, _, _, _ => rfl
  | m + 1, p0, p1, v138, v139, v140, k => (loopN2_succ (X cp n i1031_0) m (fr1031_6 p0 p1 v138 v139 v140) k).trans ((s1031_3_t cp n p0 p1 v138 v139 v140 (loopT (X cp n i1031_0) m k)).trans ((show s1031_3 cp n p0 p1 v138 v139 v140 (fun v142 v143 => loopT (X cp n i1031_0) m k .norm (fr1031_4 p0 p1 v138 v142 v143)) (loopT (X cp n i1031_0) m k (.exit 0) (fr1031_5 p0 p1 v138 v139)) = s1031_3 cp n p0 p1 v138 v139 v140 (fun v142 v143 => loopN2 (X cp n i1031_0) m (fr1031_6 p0 p1 v138 v142 v143) k) (k (.exit 0) (fr1031_7 p0 p1 v138 v139)) from by kernel_rfl).trans (congrArg (fun q => s1031_3 cp n p0 p1 v138 v139 v140 q (k (.exit 0) (fr1031_7 p0 p1 v138 v139))) (funext fun v142 => funext fun v143 => l1031_8_t cp n m p0 p1 v138 v142 v143 k))))
theorem s1031_9_t : X cp n i1031_1 (fr1031_2 p0 p1 v138) k = s1031_9 cp n p0 p1 v138 (fun v144 => k (.exit 0) (fr1031_7 p0 p1 v138 v144)) := (show X cp n i1031_1 (fr1031_2 p0 p1 v138) k = loopN2 (X cp n i1031_0) n (fr1031_6 p0 p1 v138 0 v138) k from by kernel_rfl).trans (l1031_8_t cp n n p0 p1 v138 0 v138 k)
def fr1031_10 : FF := [(.row false (.rPiece p0)) :: (tL p1) :: (.clo 74 []) :: (dT 5 ((tL v138) :: (tL v145) :: (dT 6 []))), dc, dc, dc]
theorem s1031_11_t : X cp n i1031_2 (fr1031_2 p0 p1 v138) k = s1031_11 cp n p0 p1 v138 (fun v145 => k .norm (fr1031_10 p0 p1 v138 v145)) := (show X cp n i1031_2 (fr1031_2 p0 p1 v138) k = X cp n i1031_1 (fr1031_2 p0 p1 v138) (blkT 0 k) from by kernel_rfl).trans ((s1031_9_t cp n p0 p1 v138 (blkT 0 k)).trans (by kernel_rfl))
def fr1031_13 : FF := [dT 6 ((tL v145) :: (tB v147) :: (dT 8 [])), dc, dc, dc]
theorem s1031_12_t : X cp n i1031_3 (fr1031_10 p0 p1 v138 v145) k = s1031_12 cp n p0 p1 v138 v145 (fun v147 => k .ret (fr1031_13 v145 v147)) := by kernel_rfl
def fr1031_14 : FF := [dT 6 ((tL v148) :: (tB v149) :: (dT 8 [])), dc, dc, dc]
theorem s1031_15_t : X cp n i1031_4 (fr1031_2 p0 p1 v138) k = s1031_15 cp n p0 p1 v138 (fun v148 v149 => k .ret (fr1031_14 v148 v149)) := (show X cp n i1031_4 (fr1031_2 p0 p1 v138) k = X cp n i1031_2 (fr1031_2 p0 p1 v138) (seqT (X cp n) i1031_3 k) from by kernel_rfl).trans ((show X cp n i1031_2 (fr1031_2 p0 p1 v138) (seqT (X cp n) i1031_3 k) = s1031_11 cp n p0 p1 v138 (fun v145 => X cp n i1031_3 (fr1031_10 p0 p1 v138 v145) k) from (s1031_11_t cp n p0 p1 v138 (seqT (X cp n) i1031_3 k)).trans (by kernel_rfl)).trans (congrArg (fun q => s1031_11 cp n p0 p1 v138 q) (funext fun v145 => (s1031_12_t cp n p0 p1 v138 v145 k).trans (show s1031_12 cp n p0 p1 v138 v145 (fun v147 => k .ret (fr1031_13 v145 v147)) = s1031_12 cp n p0 p1 v138 v145 (fun v147 => k .ret (fr1031_14 v145 v147)) from by kernel_rfl))))
def fr1031_16 : FF := [dT 6 ((tL v150) :: (tB v151) :: (dT 8 [])), dc, dc, dc]
def fr1031_18 : FF := [(.row false (.rPiece p0)) :: (tL p1) :: (.clo 74 []) :: (dT 13 []), dc, dc, dc]
theorem s1031_17_t : X cp n i1031_5 (fr1031_18 p0 p1) k = s1031_17 cp n p0 p1 (fun v150 v151 => k .ret (fr1031_16 v150 v151)) := ((fun c => (show X cp n (.seq (.fin (.reg g1031_0) [6, 7] []) (.seq (.fin (.reg g1031_1) [12, 13] []) (.seq (.fin (.reg g1031_2) [14] []) c))) (fr1031_18 p0 p1) k = s1031_1 cp n p0 p1 (fun v138 => X cp n c (fr1031_2 p0 p1 v138) k) from by kernel_rfl)) i1031_4).trans (congrArg (fun q => s1031_1 cp n p0 p1 q) (funext fun v138 => (s1031_15_t cp n p0 p1 v138 k).trans (show s1031_15 cp n p0 p1 v138 (fun v148 v149 => k .ret (fr1031_14 v148 v149)) = s1031_15 cp n p0 p1 v138 (fun v148 v149 => k .ret (fr1031_16 v148 v149)) from by kernel_rfl)))
theorem run1031 (cp : CP) (n : Nat) (p0 : (List SPiece)) (p1 : Int) (k : Ret2 RW → Option R) : G1031 cp (n + 1) p0 p1 (fun r0 r1 => k ⟨.tup [(tL r0), (tB r1)], [], []⟩) = run2 U cp (callP cp n) n fn1031 [.row false (.rPiece p0), (tL p1), .clo 74 []] [] k := ((X_run (f := fn1031) (av := [.row false (.rPiece p0), (tL p1), .clo 74 []]) (cells := []) (code := i1031_5) (fr := (fr1031_18 p0 p1)) (k := k) (by kernel_rfl) (fun K => by kernel_rfl)).trans ((s1031_17_t cp n p0 p1 (finK2 fn1031 k)).trans (by kernel_rfl))).symm
end
/-! slices.Clip[[]byte,byte] -/
section
variable (cp : CP) (n : Nat) (k : KX R)
theorem run77 (cp : CP) (n : Nat) (p0 : (List Int)) (k : Ret2 RW → Option R) : G77 cp (n + 1) p0 (fun r0 => k ⟨.row true (.ruint8 r0), [], []⟩) = run2 U cp (callP cp n) n fn77 [.row false (.ruint8 p0)] [] k := by kernel_rfl
end
/-! tideway/recv.put -/
section
variable (cp : CP) (n : Nat) (p0 : (List SPiece)) (p1 : SPiece) (v169 : (List SPiece)) (v170 : Int) (v171 : (List SPiece)) (v172 : Int) (v175 : (List SPiece)) (v176 : Int) (v177 v178 v179 v180 v181 : (List SPiece)) (k : KX R)
def fr60_2 : FF := [(.row true (.rPiece v169)) :: (dT 6 ((.un none (.rPiece [])) :: (dT 8 []))), dc, dc, dc, dc]
def fr60_4 : FF := [dT 7 ((.un none (.rPiece [])) :: (dT 8 [])), dT 13 ([.row false (.rPiece v169), (tL v170), (tL 0)]), dc, dc, dc]
def fr60_6 : FF := [dT 7 ((.un none (.rPiece v175)) :: (dT 8 [])), dT 13 ([.row false (.rPiece v169), (tL v170), (tL v176)]), dc, dc, dc]
def w60_0 : Fr := dT 7 ((.un none (.rPiece v171)) :: (dT 8 []))
def fr60_7 : FF := [w60_0 v171, dc, dc, dc, dc]
def fr60_8 : FF := [w60_0 v171, dT 13 ([.row false (.rPiece v169), (tL v170), (tL v172)]), dc, dc, dc]
theorem s60_5_t : X cp n i60_0 (fr60_8 v169 v170 v171 v172) k = s60_5 cp n v169 v170 v171 v172 (fun v175 v176 => k .norm (fr60_6 v169 v170 v175 v176)) (k (.exit 0) (fr60_7 v171)) := by kernel_rfl
def fr60_9 : FF := [dT 7 ((.un none (.rPiece v177)) :: (dT 8 [])), dc, dc, dc, dc]
theorem l60_10_t (cp : CP) (n : Nat) : ∀ (m : Nat) (v169 : (List SPiece)) (v170 : Int) (v171 : (List SPiece)) (v172 : Int) (k : KX R), loopN2 (X cp n i60_0) m (fr60_8 v169 v170 v171 v172) k = l60_10 cp n m v169 v170 v171 v172 (fun v177 => k (.exit 0) (fr60_9 v177))
  | 0, _, _, _, _, _ => rfl
  | m + 1, v169, v170, v171, v172, k => (loopN2_succ (X cp n i60_0) m (fr60_8 v169 v170 v171 v172) k).trans ((s60_5_t cp n v169 v170 v171 v172 (loopT (X cp n i60_0) m k)).trans ((show s60_5 cp n v169 v170 v171 v172 (fun v175 v176 => loopT (X cp n i60_0) m k .norm (fr60_6 v169 v170 v175 v176)) (loopT (X cp n i60_0) m k (.exit 0) (fr60_7 v171)) = s60_5 cp n v169 v170 v171 v172 (fun v175 v176 => loopN2 (X cp n i60_0) m (fr60_8 v169 v170 v175 v176) k) (k (.exit 0) (fr60_9 v171)) from by kernel_rfl).trans (congrArg (fun q => s60_5 cp n v169 v170 v171 v172 q (k (.exit 0) (fr60_9 v171))) (funext fun v175 => funext fun v176 => l60_10_t cp n m v169 v170 v175 v176 k))))
theorem s60_11_t : X cp n i60_1 (fr60_4 v169 v170) k = s60_11 cp n v169 v170 (fun v177 => k (.exit 0) (fr60_9 v177)) := (show X cp n i60_1 (fr60_4 v169 v170) k = loopN2 (X cp n i60_0) n (fr60_8 v169 v170 [] 0) k from by kernel_rfl).trans (l60_10_t cp n n v169 v170 [] 0 k)
def fr60_12 : FF := [dT 7 ((.un none (.rPiece v178)) :: (dT 8 [])), dc, dc, dc, dc]
theorem s60_13_t : X cp n i60_2 (fr60_4 v169 v170) k = s60_13 cp n v169 v170 (fun v178 => k .norm (fr60_12 v178)) := (show X cp n i60_2 (fr60_4 v169 v170) k = X cp n i60_1 (fr60_4 v169 v170) (blkT 0 k) from by kernel_rfl).trans ((s60_11_t cp n v169 v170 (blkT 0 k)).trans (by kernel_rfl))
def fr60_14 : FF := [dT 7 ((.un none (.rPiece v179)) :: (dT 8 [])), dc, dc, dc, dc]
theorem s60_15_t : X cp n i60_3 (fr60_2 v169) k = s60_15 cp n v169 (fun v179 => k .norm (fr60_14 v179)) := ((fun c => (show X cp n (.seq (.fin (.reg g60_4) [0] []) c) (fr60_2 v169) k = s60_3 cp n v169 (fun v170 => X cp n c (fr60_4 v169 v170) k) from by kernel_rfl)) i60_2).trans (congrArg (fun q => s60_3 cp n v169 q) (funext fun v170 => (s60_13_t cp n v169 v170 k).trans (show s60_13 cp n v169 v170 (fun v178 => k .norm (fr60_12 v178)) = s60_13 cp n v169 v170 (fun v178 => k .norm (fr60_14 v178)) from by kernel_rfl)))
def fr60_17 : FF := [dT 4 ((.row true (.rPiece v179)) :: (dT 11 [])), dc, dc, dc, dc]
theorem s60_16_t : X cp n i60_4 (fr60_14 v179) k = s60_16 cp n v179 (k .ret (fr60_17 v179)) := by kernel_rfl
def fr60_18 : FF := [dT 4 ((.row true (.rPiece v180)) :: (dT 11 [])), dc, dc, dc, dc]
theorem s60_19_t : X cp n i60_5 (fr60_2 v169) k = s60_19 cp n v169 (fun v180 => k .ret (fr60_18 v180)) := (show X cp n i60_5 (fr60_2 v169) k = X cp n i60_3 (fr60_2 v169) (seqT (X cp n) i60_4 k) from by kernel_rfl).trans ((show X cp n i60_3 (fr60_2 v169) (seqT (X cp n) i60_4 k) = s60_15 cp n v169 (fun v179 => X cp n i60_4 (fr60_14 v179) k) from (s60_15_t cp n v169 (seqT (X cp n) i60_4 k)).trans (by kernel_rfl)).trans (congrArg (fun q => s60_15 cp n v169 q) (funext fun v179 => (s60_16_t cp n v179 k).trans (show s60_16 cp n v179 (k .ret (fr60_17 v179)) = s60_16 cp n v179 (k .ret (fr60_18 v179)) from by kernel_rfl))))
def fr60_20 : FF := [dT 4 ((.row true (.rPiece v181)) :: (dT 11 [])), dc, dc, dc, dc]
def fr60_22 : FF := [(.row false (.rPiece p0)) :: (.agg (ePiece p1)) :: (dT 14 []), dc, dc, dc, dc]
theorem s60_21_t : X cp n i60_6 (fr60_22 p0 p1) k = s60_21 cp n p0 p1 (fun v181 => k .ret (fr60_20 v181)) := ((fun c => (show X cp n (.seq (.fin (.reg g60_0) [1, 4] []) (.seq (.fin (.reg g60_1) [6, 11, 12, 13, 14, 15, 16, 17] []) (.seq (.fin (.reg g60_2) [3, 5, 18, 19, 20, 21, 22, 23, 24, 25, 26, 27, 28] [(72, 2)]) (.seq (.reg g60_3) (.seq (.skip) c))))) (fr60_22 p0 p1) k = s60_1 cp n p0 p1 (fun v169 => X cp n c (fr60_2 v169) k) from by kernel_rfl)) i60_5).trans (congrArg (fun q => s60_1 cp n p0 p1 q) (funext fun v169 => (s60_19_t cp n v169 k).trans (show s60_19 cp n v169 (fun v180 => k .ret (fr60_18 v180)) = s60_19 cp n v169 (fun v180 => k .ret (fr60_20 v180)) from by kernel_rfl)))
theorem run60 (cp : CP) (n : Nat) (p0 : (List SPiece)) (p1 : SPiece) (k : Ret2 RW → Option R) : G60 cp (n + 1) p0 p1 (fun r0 => k ⟨.row true (.rPiece r0), [], []⟩) = run2 U cp (callP cp n) n fn60 [.row false (.rPiece p0), .agg (ePiece p1)] [] k := ((X_run (f := fn60) (av := [.row false (.rPiece p0), .agg (ePiece p1)]) (cells := []) (code := i60_6) (fr := (fr60_22 p0 p1)) (k := k) (by kernel_rfl) (fun K => by kernel_rfl)).trans ((s60_21_t cp n p0 p1 (finK2 fn60 k)).trans (by kernel_rfl))).symm
end
/-! tideway/recv.take$1 -/
section
variable (cp : CP) (n : Nat) (k : KX R)
theorem run1029 (cp : CP) (n : Nat) (p0 : SSpan) (q0 : SRecv) (q1 : Int) (q2 : (List Int)) (q3 : Bool) (k : Ret2 RW → Option R) : G1029 cp (n + 1) p0 q0 q1 q2 q3 (fun r0 r1 r2 r3 => k ⟨.tup [], [(eRecvt r0), [(tL r1)], [.row false (.ruint8 r2)], [(tB r3)]], []⟩) = run2 U cp (callP cp n) n fn1029 [.agg (eSpan p0), .ptr 43 0, .ptr 23 0, .ptr 41 0, .ptr 39 0] [(eRecvt q0), [(tL q1)], [.row false (.ruint8 q2)], [(tB q3)]] k := by kernel_rfl
end
end
end Go.Proofs.Ytilmdmjhdidoiaa.M
