/- The values of the program's functions, and the functions, plain. -/
import Derived.Test.YtgnoidblkenglaaMachX
set_option maxRecDepth 100000
set_option linter.unusedVariables false
namespace Go.Proofs.Ytgnoidblkenglaa.M
open Go
noncomputable section
def str_ : ByteArray := ⟨#[]⟩
def tab256_2793 : ByteArray := ⟨#[0, 1, 2, 2, 3, 3, 3, 3, 4, 4, 4, 4, 4, 4, 4, 4, 5, 5, 5, 5, 5, 5, 5, 5, 5, 5, 5, 5, 5, 5, 5, 5, 6, 6, 6, 6, 6, 6, 6, 6, 6, 6, 6, 6, 6, 6, 6, 6, 6, 6, 6, 6, 6, 6, 6, 6, 6, 6, 6, 6, 6, 6, 6, 6, 7, 7, 7, 7, 7, 7, 7, 7, 7, 7, 7, 7, 7, 7, 7, 7, 7, 7, 7, 7, 7, 7, 7, 7, 7, 7, 7, 7, 7, 7, 7, 7, 7, 7, 7, 7, 7, 7, 7, 7, 7, 7, 7, 7, 7, 7, 7, 7, 7, 7, 7, 7, 7, 7, 7, 7, 7, 7, 7, 7, 7, 7, 7, 7, 8, 8, 8, 8, 8, 8, 8, 8, 8, 8, 8, 8, 8, 8, 8, 8, 8, 8, 8, 8, 8, 8, 8, 8, 8, 8, 8, 8, 8, 8, 8, 8, 8, 8, 8, 8, 8, 8, 8, 8, 8, 8, 8, 8, 8, 8, 8, 8, 8, 8, 8, 8, 8, 8, 8, 8, 8, 8, 8, 8, 8, 8, 8, 8, 8, 8, 8, 8, 8, 8, 8, 8, 8, 8, 8, 8, 8, 8, 8, 8, 8, 8, 8, 8, 8, 8, 8, 8, 8, 8, 8, 8, 8, 8, 8, 8, 8, 8, 8, 8, 8, 8, 8, 8, 8, 8, 8, 8, 8, 8, 8, 8, 8, 8, 8, 8, 8, 8, 8, 8, 8, 8, 8, 8, 8, 8, 8, 8]⟩
structure SSample where
  xNow : Int
  xAcked : Int
  xRtt : Int
  xRate : Int
  xIdle : Bool
  xGiven : Int
  xBefore : Int
  xFlight : Int
def zSample : SSample := ⟨0, 0, 0, 0, false, 0, 0, 0⟩
def zint : Int := 0
structure SEntry where
  xAt : Int
  xV : Int
def zEntry : SEntry := ⟨0, 0⟩
structure SCc where
  xKind : Int
  xMss : Int
  xCwnd : Int
  xSsthresh : Int
  xAcc : Int
  xWmax : Int
  xEpoch : Int
  xK : Int
  xWest : Int
  xStart : Int
  xMode : Int
  xBw : (List SEntry)
  xMinRtt : Int
  xMinAt : Int
  xRound : Int
  xNextAt : Int
  xFull : Int
  xFullN : Int
  xPhase : Int
  xPhaseAt : Int
  xDoneAt : Int
  xPrior : Int
def zCc : SCc := ⟨0, 0, 0, 0, 0, 0, 0, 0, 0, 0, 0, [], 0, 0, 0, 0, 0, 0, 0, 0, 0, 0⟩
structure Sctl where
  xCc_Kind : Int
  xCc_Mss : Int
  xCc_Cwnd : Int
  xCc_Ssthresh : Int
  xCc_Acc : Int
  xCc_Wmax : Int
  xCc_Epoch : Int
  xCc_K : Int
  xCc_West : Int
  xCc_Start : Int
  xCc_Mode : Int
  xCc_Bw : (List SEntry)
  xCc_MinRtt : Int
  xCc_MinAt : Int
  xCc_Round : Int
  xCc_NextAt : Int
  xCc_Full : Int
  xCc_FullN : Int
  xCc_Phase : Int
  xCc_PhaseAt : Int
  xCc_DoneAt : Int
  xCc_Prior : Int
def zctl : Sctl := ⟨0, 0, 0, 0, 0, 0, 0, 0, 0, 0, 0, [], 0, 0, 0, 0, 0, 0, 0, 0, 0, 0⟩
structure ST68 where
  xCc_Kind : Int
  xCc_Mss : Int
  xCc_Cwnd : Int
  xCc_Ssthresh : Int
  xCc_Acc : Int
  xCc_Wmax : Int
  xCc_Epoch : Int
  xCc_K : Int
  xCc_West : Int
  xCc_Start : Int
  xCc_Mode : Int
  xCc_Bw : (List SEntry)
  xCc_MinRtt : Int
  xCc_MinAt : Int
  xCc_Round : Int
  xCc_NextAt : Int
  xCc_Full : Int
  xCc_FullN : Int
  xCc_Phase : Int
  xCc_PhaseAt : Int
  xCc_DoneAt : Int
  xCc_Prior : Int
def zT68 : ST68 := ⟨0, 0, 0, 0, 0, 0, 0, 0, 0, 0, 0, [], 0, 0, 0, 0, 0, 0, 0, 0, 0, 0⟩
structure ST85 where
  xCc_Kind : Int
  xCc_Mss : Int
  xCc_Cwnd : Int
  xCc_Ssthresh : Int
  xCc_Acc : Int
  xCc_Wmax : Int
  xCc_Epoch : Int
  xCc_K : Int
  xCc_West : Int
  xCc_Start : Int
  xCc_Mode : Int
  xCc_Bw : (List SEntry)
  xCc_MinRtt : Int
  xCc_MinAt : Int
  xCc_Round : Int
  xCc_NextAt : Int
  xCc_Full : Int
  xCc_FullN : Int
  xCc_Phase : Int
  xCc_PhaseAt : Int
  xCc_DoneAt : Int
  xCc_Prior : Int
def zT85 : ST85 := ⟨0, 0, 0, 0, 0, 0, 0, 0, 0, 0, 0, [], 0, 0, 0, 0, 0, 0, 0, 0, 0, 0⟩
inductive RW where
  | rSample (xs : List SSample)
  | rint (xs : List Int)
  | rEntry (xs : List SEntry)

abbrev Fr := List (TV RW)
abbrev FF := FT RW
def tI (k : IntKind) (n : Int) : TV RW := .sc (.int k n)
def tL (n : Int) : TV RW := .sc (.int .i64 n)
def tB (b : Bool) : TV RW := .sc (.bool b)
def dT : Nat → Fr → Fr
  | 0, l => l
  | n + 1, l => .dead :: dT n l
def dc : Fr := dT 16 []
def eSample (x : SSample) : List (TV RW) := [(tL x.xNow), (tL x.xAcked), (tL x.xRtt), (tL x.xRate), (tB x.xIdle), (tL x.xGiven), (tL x.xBefore), (tL x.xFlight)]
def eCc (x : SCc) : List (TV RW) := [(tL x.xKind), (tL x.xMss), (tL x.xCwnd), (tL x.xSsthresh), (tL x.xAcc), (tL x.xWmax), (tL x.xEpoch), (tL x.xK), (tL x.xWest), (tL x.xStart), (tL x.xMode), .row false (.rEntry x.xBw), (tL x.xMinRtt), (tL x.xMinAt), (tL x.xRound), (tL x.xNextAt), (tL x.xFull), (tL x.xFullN), (tL x.xPhase), (tL x.xPhaseAt), (tL x.xDoneAt), (tL x.xPrior)]
def eCct (x : SCc) : List (TV RW) := [(tL x.xKind), (tL x.xMss), (tL x.xCwnd), (tL x.xSsthresh), (tL x.xAcc), (tL x.xWmax), (tL x.xEpoch), (tL x.xK), (tL x.xWest), (tL x.xStart), (tL x.xMode), .row true (.rEntry x.xBw), (tL x.xMinRtt), (tL x.xMinAt), (tL x.xRound), (tL x.xNextAt), (tL x.xFull), (tL x.xFullN), (tL x.xPhase), (tL x.xPhaseAt), (tL x.xDoneAt), (tL x.xPrior)]
def eEntry (x : SEntry) : List (TV RW) := [(tL x.xAt), (tL x.xV)]
def ectl (x : Sctl) : List (TV RW) := [(tL x.xCc_Kind), (tL x.xCc_Mss), (tL x.xCc_Cwnd), (tL x.xCc_Ssthresh), (tL x.xCc_Acc), (tL x.xCc_Wmax), (tL x.xCc_Epoch), (tL x.xCc_K), (tL x.xCc_West), (tL x.xCc_Start), (tL x.xCc_Mode), .row false (.rEntry x.xCc_Bw), (tL x.xCc_MinRtt), (tL x.xCc_MinAt), (tL x.xCc_Round), (tL x.xCc_NextAt), (tL x.xCc_Full), (tL x.xCc_FullN), (tL x.xCc_Phase), (tL x.xCc_PhaseAt), (tL x.xCc_DoneAt), (tL x.xCc_Prior)]
def ectlt (x : Sctl) : List (TV RW) := [(tL x.xCc_Kind), (tL x.xCc_Mss), (tL x.xCc_Cwnd), (tL x.xCc_Ssthresh), (tL x.xCc_Acc), (tL x.xCc_Wmax), (tL x.xCc_Epoch), (tL x.xCc_K), (tL x.xCc_West), (tL x.xCc_Start), (tL x.xCc_Mode), .row true (.rEntry x.xCc_Bw), (tL x.xCc_MinRtt), (tL x.xCc_MinAt), (tL x.xCc_Round), (tL x.xCc_NextAt), (tL x.xCc_Full), (tL x.xCc_FullN), (tL x.xCc_Phase), (tL x.xCc_PhaseAt), (tL x.xCc_DoneAt), (tL x.xCc_Prior)]
def eT68 (x : ST68) : List (TV RW) := [(tL x.xCc_Kind), (tL x.xCc_Mss), (tL x.xCc_Cwnd), (tL x.xCc_Ssthresh), (tL x.xCc_Acc), (tL x.xCc_Wmax), (tL x.xCc_Epoch), (tL x.xCc_K), (tL x.xCc_West), (tL x.xCc_Start), (tL x.xCc_Mode), .row false (.rEntry x.xCc_Bw), (tL x.xCc_MinRtt), (tL x.xCc_MinAt), (tL x.xCc_Round), (tL x.xCc_NextAt), (tL x.xCc_Full), (tL x.xCc_FullN), (tL x.xCc_Phase), (tL x.xCc_PhaseAt), (tL x.xCc_DoneAt), (tL x.xCc_Prior)]
def eT68t (x : ST68) : List (TV RW) := [(tL x.xCc_Kind), (tL x.xCc_Mss), (tL x.xCc_Cwnd), (tL x.xCc_Ssthresh), (tL x.xCc_Acc), (tL x.xCc_Wmax), (tL x.xCc_Epoch), (tL x.xCc_K), (tL x.xCc_West), (tL x.xCc_Start), (tL x.xCc_Mode), .row true (.rEntry x.xCc_Bw), (tL x.xCc_MinRtt), (tL x.xCc_MinAt), (tL x.xCc_Round), (tL x.xCc_NextAt), (tL x.xCc_Full), (tL x.xCc_FullN), (tL x.xCc_Phase), (tL x.xCc_PhaseAt), (tL x.xCc_DoneAt), (tL x.xCc_Prior)]
def eT85 (x : ST85) : List (TV RW) := [(tL x.xCc_Kind), (tL x.xCc_Mss), (tL x.xCc_Cwnd), (tL x.xCc_Ssthresh), (tL x.xCc_Acc), (tL x.xCc_Wmax), (tL x.xCc_Epoch), (tL x.xCc_K), (tL x.xCc_West), (tL x.xCc_Start), (tL x.xCc_Mode), .row false (.rEntry x.xCc_Bw), (tL x.xCc_MinRtt), (tL x.xCc_MinAt), (tL x.xCc_Round), (tL x.xCc_NextAt), (tL x.xCc_Full), (tL x.xCc_FullN), (tL x.xCc_Phase), (tL x.xCc_PhaseAt), (tL x.xCc_DoneAt), (tL x.xCc_Prior)]
def eT85t (x : ST85) : List (TV RW) := [(tL x.xCc_Kind), (tL x.xCc_Mss), (tL x.xCc_Cwnd), (tL x.xCc_Ssthresh), (tL x.xCc_Acc), (tL x.xCc_Wmax), (tL x.xCc_Epoch), (tL x.xCc_K), (tL x.xCc_West), (tL x.xCc_Start), (tL x.xCc_Mode), .row true (.rEntry x.xCc_Bw), (tL x.xCc_MinRtt), (tL x.xCc_MinAt), (tL x.xCc_Round), (tL x.xCc_NextAt), (tL x.xCc_Full), (tL x.xCc_FullN), (tL x.xCc_Phase), (tL x.xCc_PhaseAt), (tL x.xCc_DoneAt), (tL x.xCc_Prior)]
def eint (x : Int) : List (TV RW) := [(tL x)]
def cSample (x : SSample) : List AV := [.sc (.int .i64 x.xNow), .sc (.int .i64 x.xAcked), .sc (.int .i64 x.xRtt), .sc (.int .i64 x.xRate), .sc (.bool x.xIdle), .sc (.int .i64 x.xGiven), .sc (.int .i64 x.xBefore), .sc (.int .i64 x.xFlight)]
def cint (x : Int) : List AV := [.sc (.int .i64 x)]
def cEntry (x : SEntry) : List AV := [.sc (.int .i64 x.xAt), .sc (.int .i64 x.xV)]
def dOne : Fr → Option (TV RW)
  | [x] => some x
  | _ => none
def dI (kd : IntKind) : TV RW → Option Int
  | .sc (.int k a) => cond (decide (k = kd)) (some a) none
  | _ => none
def dB : TV RW → Option Bool
  | .sc (.bool b) => some b
  | _ => none
def dS : TV RW → Option ByteArray
  | .sc (.string b) => some b
  | _ => none
def dA : TV RW → Option Fr
  | .agg cs => some cs
  | _ => none
def dP (h j : Nat) : TV RW → Option Unit
  | .ptr a b => cond (Nat.beq a h && Nat.beq b j) (some ()) none
  | _ => none
def dC (f : Nat) (cs : List (Nat × Nat)) : TV RW → Option Unit
  | .clo a b => cond (Nat.beq a f && decide (b = cs)) (some ()) none
  | _ => none
def dRSample (fl : Bool) : TV RW → Option (List SSample)
  | .row a (.rSample xs) => cond (a == fl) (some xs) none
  | _ => none
def dRint (fl : Bool) : TV RW → Option (List Int)
  | .row a (.rint xs) => cond (a == fl) (some xs) none
  | _ => none
def dREntry (fl : Bool) : TV RW → Option (List SEntry)
  | .row a (.rEntry xs) => cond (a == fl) (some xs) none
  | _ => none
def dSample : Fr → Option SSample
  | [y0, y1, y2, y3, y4, y5, y6, y7] => (dI .i64 y0).bind fun a0 => (dI .i64 y1).bind fun a1 => (dI .i64 y2).bind fun a2 => (dI .i64 y3).bind fun a3 => (dB y4).bind fun a4 => (dI .i64 y5).bind fun a5 => (dI .i64 y6).bind fun a6 => (dI .i64 y7).bind fun a7 => some ⟨a0, a1, a2, a3, a4, a5, a6, a7⟩
  | _ => none
def dCc : Fr → Option SCc
  | [y0, y1, y2, y3, y4, y5, y6, y7, y8, y9, y10, y11, y12, y13, y14, y15, y16, y17, y18, y19, y20, y21] => (dI .i64 y0).bind fun a0 => (dI .i64 y1).bind fun a1 => (dI .i64 y2).bind fun a2 => (dI .i64 y3).bind fun a3 => (dI .i64 y4).bind fun a4 => (dI .i64 y5).bind fun a5 => (dI .i64 y6).bind fun a6 => (dI .i64 y7).bind fun a7 => (dI .i64 y8).bind fun a8 => (dI .i64 y9).bind fun a9 => (dI .i64 y10).bind fun a10 => (dREntry false y11).bind fun a11 => (dI .i64 y12).bind fun a12 => (dI .i64 y13).bind fun a13 => (dI .i64 y14).bind fun a14 => (dI .i64 y15).bind fun a15 => (dI .i64 y16).bind fun a16 => (dI .i64 y17).bind fun a17 => (dI .i64 y18).bind fun a18 => (dI .i64 y19).bind fun a19 => (dI .i64 y20).bind fun a20 => (dI .i64 y21).bind fun a21 => some ⟨a0, a1, a2, a3, a4, a5, a6, a7, a8, a9, a10, a11, a12, a13, a14, a15, a16, a17, a18, a19, a20, a21⟩
  | _ => none
def dCct : Fr → Option SCc
  | [y0, y1, y2, y3, y4, y5, y6, y7, y8, y9, y10, y11, y12, y13, y14, y15, y16, y17, y18, y19, y20, y21] => (dI .i64 y0).bind fun a0 => (dI .i64 y1).bind fun a1 => (dI .i64 y2).bind fun a2 => (dI .i64 y3).bind fun a3 => (dI .i64 y4).bind fun a4 => (dI .i64 y5).bind fun a5 => (dI .i64 y6).bind fun a6 => (dI .i64 y7).bind fun a7 => (dI .i64 y8).bind fun a8 => (dI .i64 y9).bind fun a9 => (dI .i64 y10).bind fun a10 => (dREntry true y11).bind fun a11 => (dI .i64 y12).bind fun a12 => (dI .i64 y13).bind fun a13 => (dI .i64 y14).bind fun a14 => (dI .i64 y15).bind fun a15 => (dI .i64 y16).bind fun a16 => (dI .i64 y17).bind fun a17 => (dI .i64 y18).bind fun a18 => (dI .i64 y19).bind fun a19 => (dI .i64 y20).bind fun a20 => (dI .i64 y21).bind fun a21 => some ⟨a0, a1, a2, a3, a4, a5, a6, a7, a8, a9, a10, a11, a12, a13, a14, a15, a16, a17, a18, a19, a20, a21⟩
  | _ => none
def dEntry : Fr → Option SEntry
  | [y0, y1] => (dI .i64 y0).bind fun a0 => (dI .i64 y1).bind fun a1 => some ⟨a0, a1⟩
  | _ => none
def dctl : Fr → Option Sctl
  | [y0, y1, y2, y3, y4, y5, y6, y7, y8, y9, y10, y11, y12, y13, y14, y15, y16, y17, y18, y19, y20, y21] => (dI .i64 y0).bind fun a0 => (dI .i64 y1).bind fun a1 => (dI .i64 y2).bind fun a2 => (dI .i64 y3).bind fun a3 => (dI .i64 y4).bind fun a4 => (dI .i64 y5).bind fun a5 => (dI .i64 y6).bind fun a6 => (dI .i64 y7).bind fun a7 => (dI .i64 y8).bind fun a8 => (dI .i64 y9).bind fun a9 => (dI .i64 y10).bind fun a10 => (dREntry false y11).bind fun a11 => (dI .i64 y12).bind fun a12 => (dI .i64 y13).bind fun a13 => (dI .i64 y14).bind fun a14 => (dI .i64 y15).bind fun a15 => (dI .i64 y16).bind fun a16 => (dI .i64 y17).bind fun a17 => (dI .i64 y18).bind fun a18 => (dI .i64 y19).bind fun a19 => (dI .i64 y20).bind fun a20 => (dI .i64 y21).bind fun a21 => some ⟨a0, a1, a2, a3, a4, a5, a6, a7, a8, a9, a10, a11, a12, a13, a14, a15, a16, a17, a18, a19, a20, a21⟩
  | _ => none
def dctlt : Fr → Option Sctl
  | [y0, y1, y2, y3, y4, y5, y6, y7, y8, y9, y10, y11, y12, y13, y14, y15, y16, y17, y18, y19, y20, y21] => (dI .i64 y0).bind fun a0 => (dI .i64 y1).bind fun a1 => (dI .i64 y2).bind fun a2 => (dI .i64 y3).bind fun a3 => (dI .i64 y4).bind fun a4 => (dI .i64 y5).bind fun a5 => (dI .i64 y6).bind fun a6 => (dI .i64 y7).bind fun a7 => (dI .i64 y8).bind fun a8 => (dI .i64 y9).bind fun a9 => (dI .i64 y10).bind fun a10 => (dREntry true y11).bind fun a11 => (dI .i64 y12).bind fun a12 => (dI .i64 y13).bind fun a13 => (dI .i64 y14).bind fun a14 => (dI .i64 y15).bind fun a15 => (dI .i64 y16).bind fun a16 => (dI .i64 y17).bind fun a17 => (dI .i64 y18).bind fun a18 => (dI .i64 y19).bind fun a19 => (dI .i64 y20).bind fun a20 => (dI .i64 y21).bind fun a21 => some ⟨a0, a1, a2, a3, a4, a5, a6, a7, a8, a9, a10, a11, a12, a13, a14, a15, a16, a17, a18, a19, a20, a21⟩
  | _ => none
def dT68 : Fr → Option ST68
  | [y0, y1, y2, y3, y4, y5, y6, y7, y8, y9, y10, y11, y12, y13, y14, y15, y16, y17, y18, y19, y20, y21] => (dI .i64 y0).bind fun a0 => (dI .i64 y1).bind fun a1 => (dI .i64 y2).bind fun a2 => (dI .i64 y3).bind fun a3 => (dI .i64 y4).bind fun a4 => (dI .i64 y5).bind fun a5 => (dI .i64 y6).bind fun a6 => (dI .i64 y7).bind fun a7 => (dI .i64 y8).bind fun a8 => (dI .i64 y9).bind fun a9 => (dI .i64 y10).bind fun a10 => (dREntry false y11).bind fun a11 => (dI .i64 y12).bind fun a12 => (dI .i64 y13).bind fun a13 => (dI .i64 y14).bind fun a14 => (dI .i64 y15).bind fun a15 => (dI .i64 y16).bind fun a16 => (dI .i64 y17).bind fun a17 => (dI .i64 y18).bind fun a18 => (dI .i64 y19).bind fun a19 => (dI .i64 y20).bind fun a20 => (dI .i64 y21).bind fun a21 => some ⟨a0, a1, a2, a3, a4, a5, a6, a7, a8, a9, a10, a11, a12, a13, a14, a15, a16, a17, a18, a19, a20, a21⟩
  | _ => none
def dT68t : Fr → Option ST68
  | [y0, y1, y2, y3, y4, y5, y6, y7, y8, y9, y10, y11, y12, y13, y14, y15, y16, y17, y18, y19, y20, y21] => (dI .i64 y0).bind fun a0 => (dI .i64 y1).bind fun a1 => (dI .i64 y2).bind fun a2 => (dI .i64 y3).bind fun a3 => (dI .i64 y4).bind fun a4 => (dI .i64 y5).bind fun a5 => (dI .i64 y6).bind fun a6 => (dI .i64 y7).bind fun a7 => (dI .i64 y8).bind fun a8 => (dI .i64 y9).bind fun a9 => (dI .i64 y10).bind fun a10 => (dREntry true y11).bind fun a11 => (dI .i64 y12).bind fun a12 => (dI .i64 y13).bind fun a13 => (dI .i64 y14).bind fun a14 => (dI .i64 y15).bind fun a15 => (dI .i64 y16).bind fun a16 => (dI .i64 y17).bind fun a17 => (dI .i64 y18).bind fun a18 => (dI .i64 y19).bind fun a19 => (dI .i64 y20).bind fun a20 => (dI .i64 y21).bind fun a21 => some ⟨a0, a1, a2, a3, a4, a5, a6, a7, a8, a9, a10, a11, a12, a13, a14, a15, a16, a17, a18, a19, a20, a21⟩
  | _ => none
def dT85 : Fr → Option ST85
  | [y0, y1, y2, y3, y4, y5, y6, y7, y8, y9, y10, y11, y12, y13, y14, y15, y16, y17, y18, y19, y20, y21] => (dI .i64 y0).bind fun a0 => (dI .i64 y1).bind fun a1 => (dI .i64 y2).bind fun a2 => (dI .i64 y3).bind fun a3 => (dI .i64 y4).bind fun a4 => (dI .i64 y5).bind fun a5 => (dI .i64 y6).bind fun a6 => (dI .i64 y7).bind fun a7 => (dI .i64 y8).bind fun a8 => (dI .i64 y9).bind fun a9 => (dI .i64 y10).bind fun a10 => (dREntry false y11).bind fun a11 => (dI .i64 y12).bind fun a12 => (dI .i64 y13).bind fun a13 => (dI .i64 y14).bind fun a14 => (dI .i64 y15).bind fun a15 => (dI .i64 y16).bind fun a16 => (dI .i64 y17).bind fun a17 => (dI .i64 y18).bind fun a18 => (dI .i64 y19).bind fun a19 => (dI .i64 y20).bind fun a20 => (dI .i64 y21).bind fun a21 => some ⟨a0, a1, a2, a3, a4, a5, a6, a7, a8, a9, a10, a11, a12, a13, a14, a15, a16, a17, a18, a19, a20, a21⟩
  | _ => none
def dT85t : Fr → Option ST85
  | [y0, y1, y2, y3, y4, y5, y6, y7, y8, y9, y10, y11, y12, y13, y14, y15, y16, y17, y18, y19, y20, y21] => (dI .i64 y0).bind fun a0 => (dI .i64 y1).bind fun a1 => (dI .i64 y2).bind fun a2 => (dI .i64 y3).bind fun a3 => (dI .i64 y4).bind fun a4 => (dI .i64 y5).bind fun a5 => (dI .i64 y6).bind fun a6 => (dI .i64 y7).bind fun a7 => (dI .i64 y8).bind fun a8 => (dI .i64 y9).bind fun a9 => (dI .i64 y10).bind fun a10 => (dREntry true y11).bind fun a11 => (dI .i64 y12).bind fun a12 => (dI .i64 y13).bind fun a13 => (dI .i64 y14).bind fun a14 => (dI .i64 y15).bind fun a15 => (dI .i64 y16).bind fun a16 => (dI .i64 y17).bind fun a17 => (dI .i64 y18).bind fun a18 => (dI .i64 y19).bind fun a19 => (dI .i64 y20).bind fun a20 => (dI .i64 y21).bind fun a21 => some ⟨a0, a1, a2, a3, a4, a5, a6, a7, a8, a9, a10, a11, a12, a13, a14, a15, a16, a17, a18, a19, a20, a21⟩
  | _ => none
def pSample_ : Fr → Option (List SSample)
  | [] => some []
  | y0 :: y1 :: y2 :: y3 :: y4 :: y5 :: y6 :: y7 :: r => (dI .i64 y0).bind fun a0 => (dI .i64 y1).bind fun a1 => (dI .i64 y2).bind fun a2 => (dI .i64 y3).bind fun a3 => (dB y4).bind fun a4 => (dI .i64 y5).bind fun a5 => (dI .i64 y6).bind fun a6 => (dI .i64 y7).bind fun a7 => (pSample_ r).bind fun xs => some (⟨a0, a1, a2, a3, a4, a5, a6, a7⟩ :: xs)
  | _ => none

def pint_ : Fr → Option (List Int)
  | [] => some []
  | y0 :: r => (dI .i64 y0).bind fun a0 => (pint_ r).bind fun xs => some (a0 :: xs)

def pEntry_ : Fr → Option (List SEntry)
  | [] => some []
  | y0 :: y1 :: r => (dI .i64 y0).bind fun a0 => (dI .i64 y1).bind fun a1 => (pEntry_ r).bind fun xs => some (⟨a0, a1⟩ :: xs)
  | _ => none

def U : Uni RW where
  sz := fun r => match r with
    | .rSample xs => 8
    | .rint xs => 1
    | .rEntry xs => 2
  len := fun r => match r with
    | .rSample xs => xs.length
    | .rint xs => xs.length
    | .rEntry xs => xs.length
  getA := fun r => match r with
    | .rSample xs => rg cSample zSample xs
    | .rint xs => rg cint zint xs
    | .rEntry xs => rg cEntry zEntry xs
  get := fun r i => match r with
    | .rSample xs => eSample (xs.getD i zSample)
    | .rint xs => eint (xs.getD i zint)
    | .rEntry xs => eEntry (xs.getD i zEntry)
  app := fun r q => match r with
    | .rSample xs => (match q with
      | .rSample ys => some (.rSample (xs ++ ys))
      | _ => none)
    | .rint xs => (match q with
      | .rint ys => some (.rint (xs ++ ys))
      | _ => none)
    | .rEntry xs => (match q with
      | .rEntry ys => some (.rEntry (xs ++ ys))
      | _ => none)
  sub := fun lo n r => match r with
    | .rSample xs => .rSample (List.take n (xs.drop lo))
    | .rint xs => .rint (List.take n (xs.drop lo))
    | .rEntry xs => .rEntry (List.take n (xs.drop lo))
  szt := fun t => match t with
    | 45 => 8
    | 3 => 1
    | 52 => 2
    | _ => 0
  zt := fun t => match t with
    | 45 => eSample zSample
    | 3 => eint zint
    | 52 => eEntry zEntry
    | _ => []
  lit := fun t n L => match t with
    | 45 => (pSample_ L).bind fun xs => cond (Nat.beq xs.length n) (some (.rSample xs)) none
    | 3 => (pint_ L).bind fun xs => cond (Nat.beq xs.length n) (some (.rint xs)) none
    | 52 => (pEntry_ L).bind fun xs => cond (Nat.beq xs.length n) (some (.rEntry xs)) none
    | _ => none
/-! tideway/reno.New -/
def G_reno_New {R : Type} (cp : Nat → Nat → Bool) : Nat → Int → Int → (SCc → Int → Option R) → Option R
  | 0, _, _, _ => none
  | n + 1, p0, p1, k =>
    cond (decide (p0 < 1)) (k (SCc.mk 0 0 0 0 0 0 0 0 0 0 0 [] 0 0 0 0 0 0 0 0 0 0) 2) (cond (decide (65000 < p0)) (k (SCc.mk 0 0 0 0 0 0 0 0 0 0 0 [] 0 0 0 0 0 0 0 0 0 0) 2) (cond (decide (p1 < 1)) (k (SCc.mk 0 0 0 0 0 0 0 0 0 0 0 [] 0 0 0 0 0 0 0 0 0 0) 2) (cond (decide (100 < p1)) (k (SCc.mk 0 0 0 0 0 0 0 0 0 0 0 [] 0 0 0 0 0 0 0 0 0 0) 2) (k (SCc.mk 1 p0 (wr .i64 (p0 * p1)) 1073741824 0 0 0 0 0 0 0 [] 0 0 0 0 0 0 0 0 0 0) 0))))
/-! tideway/cubic.New -/
def G_cubic_New {R : Type} (cp : Nat → Nat → Bool) : Nat → Int → Int → (SCc → Int → Option R) → Option R
  | 0, _, _, _ => none
  | n + 1, p0, p1, k =>
    G_reno_New cp n p0 p1 (fun r3 r4 => cond (decide (r4 = 0)) (k (SCc.mk 2 r3.xMss r3.xCwnd r3.xSsthresh r3.xAcc r3.xWmax (-1) r3.xK r3.xWest r3.xStart r3.xMode r3.xBw r3.xMinRtt r3.xMinAt r3.xRound r3.xNextAt r3.xFull r3.xFullN r3.xPhase r3.xPhaseAt r3.xDoneAt r3.xPrior) r4) (k r3 r4))
/-! tideway/bbr.New -/
def G_bbr_New {R : Type} (cp : Nat → Nat → Bool) : Nat → Int → Int → (SCc → Int → Option R) → Option R
  | 0, _, _, _ => none
  | n + 1, p0, p1, k =>
    G_reno_New cp n p0 p1 (fun r7 r8 => cond (decide (r8 = 0)) (k (SCc.mk 3 r7.xMss r7.xCwnd r7.xSsthresh r7.xAcc r7.xWmax r7.xEpoch r7.xK r7.xWest r7.xStart 1 r7.xBw r7.xMinRtt r7.xMinAt r7.xRound r7.xNextAt r7.xFull r7.xFullN r7.xPhase r7.xPhaseAt r7.xDoneAt r7.xPrior) r8) (k r7 r8))
/-! tideway/cc.New -/
def G_cc_New {R : Type} (cp : Nat → Nat → Bool) : Nat → Int → Int → Int → (SCc → Int → Option R) → Option R
  | 0, _, _, _, _ => none
  | n + 1, p0, p1, p2, k =>
    cond (decide (p0 = 1)) (G_reno_New cp n p1 p2 (fun r1 r2 => k r1 r2)) (cond (decide (p0 = 2)) (G_cubic_New cp n p1 p2 (fun r5 r6 => k r5 r6)) (cond (decide (p0 = 3)) (G_bbr_New cp n p1 p2 (fun r9 r10 => k r9 r10)) (k (SCc.mk 0 0 0 0 0 0 0 0 0 0 0 [] 0 0 0 0 0 0 0 0 0 0) 2)))
/-! tideway/cc.time -/
def G_cc_time {R : Type} (cp : Nat → Nat → Bool) : Nat → Int → (Bool → Option R) → Option R
  | 0, _, _ => none
  | n + 1, p0, k =>
    cond (decide (0 ≤ p0)) (k (decide (p0 ≤ 1125899906842624))) (k false)
/-! tideway/cc.size -/
def G_cc_size {R : Type} (cp : Nat → Nat → Bool) : Nat → Int → (Bool → Option R) → Option R
  | 0, _, _ => none
  | n + 1, p0, k =>
    cond (decide (0 ≤ p0)) (k (decide (p0 ≤ 1073741824))) (k false)
/-! tideway/reno.size -/
def G_reno_size {R : Type} (cp : Nat → Nat → Bool) : Nat → Int → (Bool → Option R) → Option R
  | 0, _, _ => none
  | n + 1, p0, k =>
    cond (decide (0 ≤ p0)) (k (decide (p0 ≤ 1073741824))) (k false)
/-! (*tideway/reno.ctl).plain -/
def s_reno_ctl_plain_1 {R : Type} (cp : Nat → Nat → Bool) (n : Nat) (q0 : Sctl) (kn : Option R) : Option R :=
  kn
def s_reno_ctl_plain_3 {R : Type} (cp : Nat → Nat → Bool) (n : Nat) (q0 : Sctl) (kn : Bool → Option R) : Option R :=
  cond (decide (q0.xCc_Wmax = 0)) (cond (decide (q0.xCc_Epoch = 0)) (cond (decide (q0.xCc_K = 0)) (cond (decide (q0.xCc_West = 0)) (cond (decide (q0.xCc_Start = 0)) (cond (decide (q0.xCc_Mode = 0)) (cond (decide ((q0.xCc_Bw.length : Int) = 0)) (cond (decide (q0.xCc_MinRtt = 0)) (cond (decide (q0.xCc_MinAt = 0)) (cond (decide (q0.xCc_Round = 0)) (cond (decide (q0.xCc_NextAt = 0)) (cond (decide (q0.xCc_Full = 0)) (cond (decide (q0.xCc_FullN = 0)) (cond (decide (q0.xCc_Phase = 0)) (cond (decide (q0.xCc_PhaseAt = 0)) (cond (decide (q0.xCc_DoneAt = 0)) (kn (decide (q0.xCc_Prior = 0))) (kn false)) (kn false)) (kn false)) (kn false)) (kn false)) (kn false)) (kn false)) (kn false)) (kn false)) (kn false)) (kn false)) (kn false)) (kn false)) (kn false)) (kn false)) (kn false)
def s_reno_ctl_plain_5 {R : Type} (cp : Nat → Nat → Bool) (n : Nat) (q0 : Sctl) (v29 : Bool) (kr : Option R) : Option R :=
  kr
def s_reno_ctl_plain_7 {R : Type} (cp : Nat → Nat → Bool) (n : Nat) (q0 : Sctl) (kr : Bool → Option R) : Option R :=
  s_reno_ctl_plain_3 cp n q0 (fun v29 => s_reno_ctl_plain_5 cp n q0 v29 (kr v29))
def s_reno_ctl_plain_9 {R : Type} (cp : Nat → Nat → Bool) (n : Nat) (q0 : Sctl) (kr : Bool → Option R) : Option R :=
  s_reno_ctl_plain_1 cp n q0 (s_reno_ctl_plain_7 cp n q0 (fun v30 => (kr v30)))
def G_reno_ctl_plain {R : Type} (cp : Nat → Nat → Bool) : Nat → Sctl → (Bool → Sctl → Option R) → Option R
  | 0, _, _ => none
  | n + 1, q0, k =>
    s_reno_ctl_plain_9 cp n q0 (fun v31 => k v31 q0)
/-! tideway/reno.Check -/
def G_reno_Check {R : Type} (cp : Nat → Nat → Bool) : Nat → SCc → (Int → Option R) → Option R
  | 0, _, _ => none
  | n + 1, p0, k =>
    cond (!decide (p0.xKind = 1)) (k 230) (cond (decide (p0.xMss < 1)) (k 230) (cond (decide (65000 < p0.xMss)) (k 230) (cond (decide (p0.xCwnd < p0.xMss)) (k 230) (G_reno_size cp n p0.xCwnd (fun r26 => cond (!r26) (k 230) (cond (decide (p0.xSsthresh < (wr .i64 (2 * p0.xMss)))) (k 230) (G_reno_size cp n p0.xSsthresh (fun r27 => cond (!r27) (k 230) (G_reno_size cp n p0.xAcc (fun r28 => cond (!r28) (k 230) (G_reno_ctl_plain cp n (Sctl.mk p0.xKind p0.xMss p0.xCwnd p0.xSsthresh p0.xAcc p0.xWmax p0.xEpoch p0.xK p0.xWest p0.xStart p0.xMode p0.xBw p0.xMinRtt p0.xMinAt p0.xRound p0.xNextAt p0.xFull p0.xFullN p0.xPhase p0.xPhaseAt p0.xDoneAt p0.xPrior) (fun r32 r33 => cond (!r32) (k 230) (k 0)))))))))))))
/-! tideway/cubic.size -/
def s_cubic_size_1 {R : Type} (cp : Nat → Nat → Bool) (n : Nat) (p0 : (List Int)) (kn : Option R) : Option R :=
  kn
def s_cubic_size_3 {R : Type} (cp : Nat → Nat → Bool) (n : Nat) (p0 : (List Int)) (kn : Int → Option R) : Option R :=
  kn (p0.length : Int)
def s_cubic_size_5 {R : Type} (cp : Nat → Nat → Bool) (n : Nat) (p0 : (List Int)) (v36 v37 : Int) (kn : Int → Option R) (kr : Option R) (ke0 : Option R) : Option R :=
  cond (decide (v37 < v36)) (cond (decide (0 ≤ v37)) (cond (decide (v37 < (p0.length : Int))) (cond (decide ((p0.getD (Int.toNat v37) zint) < 0)) (kr) (cond (decide (1073741824 < (p0.getD (Int.toNat v37) zint))) (kr) (kn (wr .i64 (v37 + 1))))) (none)) (none)) (ke0)
def l_cubic_size_10 {R : Type} (cp : Nat → Nat → Bool) (n : Nat) : Nat → (List Int) → Int → Int → (Option R) → (Option R) → Option R
  | 0, _, _, _, _, _ => none
  | m + 1, p0, v36, v37, kr, ke0 =>
    s_cubic_size_5 cp n p0 v36 v37 (fun v38 => l_cubic_size_10 cp n m p0 v36 v38 kr ke0) kr ke0
def s_cubic_size_11 {R : Type} (cp : Nat → Nat → Bool) (n : Nat) (p0 : (List Int)) (v36 : Int) (kr : Option R) (ke0 : Option R) : Option R :=
  l_cubic_size_10 cp n n p0 v36 0 kr ke0
def s_cubic_size_12 {R : Type} (cp : Nat → Nat → Bool) (n : Nat) (p0 : (List Int)) (v36 : Int) (kn : Option R) (kr : Option R) : Option R :=
  s_cubic_size_11 cp n p0 v36 kr kn
def s_cubic_size_13 {R : Type} (cp : Nat → Nat → Bool) (n : Nat) (p0 : (List Int)) (kn : Option R) (kr : Option R) : Option R :=
  s_cubic_size_3 cp n p0 (fun v36 => s_cubic_size_12 cp n p0 v36 kn kr)
def s_cubic_size_14 {R : Type} (cp : Nat → Nat → Bool) (n : Nat) (kr : Option R) : Option R :=
  kr
def s_cubic_size_17 {R : Type} (cp : Nat → Nat → Bool) (n : Nat) (p0 : (List Int)) (kr : Bool → Option R) : Option R :=
  s_cubic_size_13 cp n p0 (s_cubic_size_14 cp n (kr true)) (kr false)
def s_cubic_size_19 {R : Type} (cp : Nat → Nat → Bool) (n : Nat) (p0 : (List Int)) (kr : Bool → Option R) : Option R :=
  s_cubic_size_1 cp n p0 (s_cubic_size_17 cp n p0 (fun v39 => (kr v39)))
def G_cubic_size {R : Type} (cp : Nat → Nat → Bool) : Nat → (List Int) → (Bool → Option R) → Option R
  | 0, _, _ => none
  | n + 1, p0, k =>
    s_cubic_size_19 cp n p0 (fun v40 => k v40)
/-! tideway/cubic.Check -/
def G_cubic_Check {R : Type} (cp : Nat → Nat → Bool) : Nat → SCc → (Int → Option R) → Option R
  | 0, _, _ => none
  | n + 1, p0, k =>
    cond (!decide (p0.xKind = 2)) (k 230) (G_reno_Check cp n (SCc.mk 1 p0.xMss p0.xCwnd p0.xSsthresh p0.xAcc 0 0 0 0 0 p0.xMode p0.xBw p0.xMinRtt p0.xMinAt p0.xRound p0.xNextAt p0.xFull p0.xFullN p0.xPhase p0.xPhaseAt p0.xDoneAt p0.xPrior) (fun r35 => cond (!decide (r35 = 0)) (k 230) (G_cubic_size cp n [p0.xWmax, p0.xWest, p0.xStart] (fun r41 => cond (!r41) (k 230) (cond (decide (p0.xK < 0)) (k 230) (cond (decide (2097151 < p0.xK)) (k 230) (cond (decide (p0.xEpoch < (-1))) (k 230) (cond (decide (1125899906842624 < p0.xEpoch)) (k 230) (k 0)))))))))
/-! tideway/bbr.within -/
def s_bbr_within_1 {R : Type} (cp : Nat → Nat → Bool) (n : Nat) (p0 : Int) (p1 : (List Int)) (kn : Option R) : Option R :=
  kn
def s_bbr_within_3 {R : Type} (cp : Nat → Nat → Bool) (n : Nat) (p0 : Int) (p1 : (List Int)) (kn : Int → Option R) : Option R :=
  kn (p1.length : Int)
def s_bbr_within_5 {R : Type} (cp : Nat → Nat → Bool) (n : Nat) (p0 : Int) (p1 : (List Int)) (v43 v44 : Int) (kn : Int → Option R) (kr : Option R) (ke0 : Option R) : Option R :=
  cond (decide (v44 < v43)) (cond (decide (0 ≤ v44)) (cond (decide (v44 < (p1.length : Int))) (cond (decide ((p1.getD (Int.toNat v44) zint) < 0)) (kr) (cond (decide (p0 < (p1.getD (Int.toNat v44) zint))) (kr) (kn (wr .i64 (v44 + 1))))) (none)) (none)) (ke0)
def l_bbr_within_10 {R : Type} (cp : Nat → Nat → Bool) (n : Nat) : Nat → Int → (List Int) → Int → Int → (Option R) → (Option R) → Option R
  | 0, _, _, _, _, _, _ => none
  | m + 1, p0, p1, v43, v44, kr, ke0 =>
    s_bbr_within_5 cp n p0 p1 v43 v44 (fun v45 => l_bbr_within_10 cp n m p0 p1 v43 v45 kr ke0) kr ke0
def s_bbr_within_11 {R : Type} (cp : Nat → Nat → Bool) (n : Nat) (p0 : Int) (p1 : (List Int)) (v43 : Int) (kr : Option R) (ke0 : Option R) : Option R :=
  l_bbr_within_10 cp n n p0 p1 v43 0 kr ke0
def s_bbr_within_12 {R : Type} (cp : Nat → Nat → Bool) (n : Nat) (p0 : Int) (p1 : (List Int)) (v43 : Int) (kn : Option R) (kr : Option R) : Option R :=
  s_bbr_within_11 cp n p0 p1 v43 kr kn
def s_bbr_within_13 {R : Type} (cp : Nat → Nat → Bool) (n : Nat) (p0 : Int) (p1 : (List Int)) (kn : Option R) (kr : Option R) : Option R :=
  s_bbr_within_3 cp n p0 p1 (fun v43 => s_bbr_within_12 cp n p0 p1 v43 kn kr)
def s_bbr_within_14 {R : Type} (cp : Nat → Nat → Bool) (n : Nat) (kr : Option R) : Option R :=
  kr
def s_bbr_within_17 {R : Type} (cp : Nat → Nat → Bool) (n : Nat) (p0 : Int) (p1 : (List Int)) (kr : Bool → Option R) : Option R :=
  s_bbr_within_13 cp n p0 p1 (s_bbr_within_14 cp n (kr true)) (kr false)
def s_bbr_within_19 {R : Type} (cp : Nat → Nat → Bool) (n : Nat) (p0 : Int) (p1 : (List Int)) (kr : Bool → Option R) : Option R :=
  s_bbr_within_1 cp n p0 p1 (s_bbr_within_17 cp n p0 p1 (fun v46 => (kr v46)))
def G_bbr_within {R : Type} (cp : Nat → Nat → Bool) : Nat → Int → (List Int) → (Bool → Option R) → Option R
  | 0, _, _, _ => none
  | n + 1, p0, p1, k =>
    s_bbr_within_19 cp n p0 p1 (fun v47 => k v47)
/-! tideway/filter.may -/
def G_filter_may {R : Type} (cp : Nat → Nat → Bool) : Nat → SEntry → (Bool → Option R) → Option R
  | 0, _, _ => none
  | n + 1, p0, k =>
    cond (decide (0 ≤ p0.xAt)) (cond (decide (p0.xAt ≤ 1125899906842624)) (cond (decide (0 ≤ p0.xV)) (k (decide (p0.xV ≤ 1152921504606846976))) (k false)) (k false)) (k false)
/-! tideway/filter.beats -/
def G_filter_beats {R : Type} (cp : Nat → Nat → Bool) : Nat → Int → Int → Bool → (Bool → Option R) → Option R
  | 0, _, _, _, _ => none
  | n + 1, p0, p1, p2, k =>
    cond (p2) (cond (decide (p1 ≤ p0)) (k true) (cond (!p2) (k (decide (p0 ≤ p1))) (k false))) (cond (!p2) (k (decide (p0 ≤ p1))) (k false))
/-! tideway/filter.Check -/
def s_filter_Check_1 {R : Type} (cp : Nat → Nat → Bool) (n : Nat) (p0 : (List SEntry)) (p1 : Bool) (kn : Option R) : Option R :=
  kn
def s_filter_Check_3 {R : Type} (cp : Nat → Nat → Bool) (n : Nat) (p0 : (List SEntry)) (p1 : Bool) (kn : Int → Option R) : Option R :=
  kn (p0.length : Int)
def s_filter_Check_5 {R : Type} (cp : Nat → Nat → Bool) (n : Nat) (p0 : (List SEntry)) (p1 : Bool) (v51 v52 : Int) (kn : Int → Option R) (kr : Option R) (ke0 : Option R) : Option R :=
  cond (decide (v52 < v51)) (cond (decide (0 ≤ v52)) (cond (decide (v52 < (p0.length : Int))) (G_filter_may cp n (p0.getD (Int.toNat v52) zEntry) (fun r53 => cond (!r53) (kr) (cond (decide (0 < v52)) (cond (decide (0 ≤ wr .i64 (v52 - 1))) (cond (decide (wr .i64 (v52 - 1) < (p0.length : Int))) (cond (decide (((p0.getD (Int.toNat v52) zEntry).xAt) ≤ ((p0.getD (Int.toNat (wr .i64 (v52 - 1))) zEntry).xAt))) (kr) (cond (decide (0 ≤ wr .i64 (v52 - 1))) (cond (decide (wr .i64 (v52 - 1) < (p0.length : Int))) (G_filter_beats cp n ((p0.getD (Int.toNat v52) zEntry).xV) ((p0.getD (Int.toNat (wr .i64 (v52 - 1))) zEntry).xV) p1 (fun r54 => cond (r54) (kr) (kn (wr .i64 (v52 + 1))))) (none)) (none))) (none)) (none)) (kn (wr .i64 (v52 + 1)))))) (none)) (none)) (ke0)
def l_filter_Check_10 {R : Type} (cp : Nat → Nat → Bool) (n : Nat) : Nat → (List SEntry) → Bool → Int → Int → (Option R) → (Option R) → Option R
  | 0, _, _, _, _, _, _ => none
  | m + 1, p0, p1, v51, v52, kr, ke0 =>
    s_filter_Check_5 cp n p0 p1 v51 v52 (fun v55 => l_filter_Check_10 cp n m p0 p1 v51 v55 kr ke0) kr ke0
def s_filter_Check_11 {R : Type} (cp : Nat → Nat → Bool) (n : Nat) (p0 : (List SEntry)) (p1 : Bool) (v51 : Int) (kr : Option R) (ke0 : Option R) : Option R :=
  l_filter_Check_10 cp n n p0 p1 v51 0 kr ke0
def s_filter_Check_12 {R : Type} (cp : Nat → Nat → Bool) (n : Nat) (p0 : (List SEntry)) (p1 : Bool) (v51 : Int) (kn : Option R) (kr : Option R) : Option R :=
  s_filter_Check_11 cp n p0 p1 v51 kr kn
def s_filter_Check_13 {R : Type} (cp : Nat → Nat → Bool) (n : Nat) (p0 : (List SEntry)) (p1 : Bool) (kn : Option R) (kr : Option R) : Option R :=
  s_filter_Check_3 cp n p0 p1 (fun v51 => s_filter_Check_12 cp n p0 p1 v51 kn kr)
def s_filter_Check_14 {R : Type} (cp : Nat → Nat → Bool) (n : Nat) (kr : Option R) : Option R :=
  kr
def s_filter_Check_17 {R : Type} (cp : Nat → Nat → Bool) (n : Nat) (p0 : (List SEntry)) (p1 : Bool) (kr : Int → Option R) : Option R :=
  s_filter_Check_13 cp n p0 p1 (s_filter_Check_14 cp n (kr 0)) (kr 2)
def s_filter_Check_19 {R : Type} (cp : Nat → Nat → Bool) (n : Nat) (p0 : (List SEntry)) (p1 : Bool) (kr : Int → Option R) : Option R :=
  s_filter_Check_1 cp n p0 p1 (s_filter_Check_17 cp n p0 p1 (fun v56 => (kr v56)))
def G_filter_Check {R : Type} (cp : Nat → Nat → Bool) : Nat → (List SEntry) → Bool → (Int → Option R) → Option R
  | 0, _, _, _ => none
  | n + 1, p0, p1, k =>
    s_filter_Check_19 cp n p0 p1 (fun v57 => k v57)
/-! (*tideway/bbr.ctl).entries -/
def s_bbr_ctl_entries_1 {R : Type} (cp : Nat → Nat → Bool) (n : Nat) (q0 : ST68) (kn : Option R) (kr : Option R) : Option R :=
  G_filter_Check cp n q0.xCc_Bw true (fun r58 => cond (!decide (r58 = 0)) (kr) (kn))
def s_bbr_ctl_entries_4 {R : Type} (cp : Nat → Nat → Bool) (n : Nat) (q0 : ST68) (kn : Int → Option R) : Option R :=
  kn (q0.xCc_Bw.length : Int)
def s_bbr_ctl_entries_6 {R : Type} (cp : Nat → Nat → Bool) (n : Nat) (q0 : ST68) (v59 v60 : Int) (kn : Int → Option R) (kr : Option R) (ke0 : Option R) : Option R :=
  cond (decide (v60 < v59)) (cond (decide (0 ≤ v60)) (cond (decide (v60 < (q0.xCc_Bw.length : Int))) (cond (decide (1099511627776 < ((q0.xCc_Bw.getD (Int.toNat v60) zEntry).xV))) (kr) (cond (decide (q0.xCc_Round < ((q0.xCc_Bw.getD (Int.toNat v60) zEntry).xAt))) (kr) (kn (wr .i64 (v60 + 1))))) (none)) (none)) (ke0)
def l_bbr_ctl_entries_10 {R : Type} (cp : Nat → Nat → Bool) (n : Nat) : Nat → ST68 → Int → Int → (Option R) → (Option R) → Option R
  | 0, _, _, _, _, _ => none
  | m + 1, q0, v59, v60, kr, ke0 =>
    s_bbr_ctl_entries_6 cp n q0 v59 v60 (fun v61 => l_bbr_ctl_entries_10 cp n m q0 v59 v61 kr ke0) kr ke0
def s_bbr_ctl_entries_11 {R : Type} (cp : Nat → Nat → Bool) (n : Nat) (q0 : ST68) (v59 : Int) (kr : Option R) (ke0 : Option R) : Option R :=
  l_bbr_ctl_entries_10 cp n n q0 v59 0 kr ke0
def s_bbr_ctl_entries_12 {R : Type} (cp : Nat → Nat → Bool) (n : Nat) (q0 : ST68) (v59 : Int) (kn : Option R) (kr : Option R) : Option R :=
  s_bbr_ctl_entries_11 cp n q0 v59 kr kn
def s_bbr_ctl_entries_13 {R : Type} (cp : Nat → Nat → Bool) (n : Nat) (q0 : ST68) (kn : Option R) (kr : Option R) : Option R :=
  s_bbr_ctl_entries_4 cp n q0 (fun v59 => s_bbr_ctl_entries_12 cp n q0 v59 kn kr)
def s_bbr_ctl_entries_14 {R : Type} (cp : Nat → Nat → Bool) (n : Nat) (q0 : ST68) (kr : Option R) : Option R :=
  kr
def s_bbr_ctl_entries_17 {R : Type} (cp : Nat → Nat → Bool) (n : Nat) (q0 : ST68) (kr : Bool → Option R) : Option R :=
  s_bbr_ctl_entries_13 cp n q0 (s_bbr_ctl_entries_14 cp n q0 (kr true)) (kr false)
def s_bbr_ctl_entries_19 {R : Type} (cp : Nat → Nat → Bool) (n : Nat) (q0 : ST68) (kr : Bool → Option R) : Option R :=
  s_bbr_ctl_entries_1 cp n q0 (s_bbr_ctl_entries_17 cp n q0 (fun v62 => (kr v62))) (kr false)
def G_bbr_ctl_entries {R : Type} (cp : Nat → Nat → Bool) : Nat → ST68 → (Bool → ST68 → Option R) → Option R
  | 0, _, _ => none
  | n + 1, q0, k =>
    s_bbr_ctl_entries_19 cp n q0 (fun v63 => k v63 q0)
/-! tideway/bbr.Check -/
def s_bbr_Check_1 {R : Type} (cp : Nat → Nat → Bool) (n : Nat) (p0 : SCc) (kn : Option R) : Option R :=
  kn
def s_bbr_Check_3 {R : Type} (cp : Nat → Nat → Bool) (n : Nat) (p0 : SCc) (kn : Bool → Option R) : Option R :=
  cond (decide (p0.xKind = 3)) (cond (decide (1 ≤ p0.xMss)) (cond (decide (p0.xMss ≤ 65000)) (cond (decide (p0.xMss ≤ p0.xCwnd)) (cond (decide (p0.xCwnd ≤ 1073741824)) (cond (decide (p0.xSsthresh = 1073741824)) (kn (decide (p0.xAcc = 0))) (kn false)) (kn false)) (kn false)) (kn false)) (kn false)) (kn false)
def s_bbr_Check_5 {R : Type} (cp : Nat → Nat → Bool) (n : Nat) (p0 : SCc) (v43 : Bool) (kn : Bool → Option R) : Option R :=
  cond (decide (p0.xWmax = 0)) (cond (decide (p0.xEpoch = 0)) (cond (decide (p0.xK = 0)) (cond (decide (p0.xWest = 0)) (kn (decide (p0.xStart = 0))) (kn false)) (kn false)) (kn false)) (kn false)
def s_bbr_Check_7 {R : Type} (cp : Nat → Nat → Bool) (n : Nat) (p0 : SCc) (v43 v44 : Bool) (kn : Bool → Option R) : Option R :=
  G_bbr_within cp n 1125899906842624 [p0.xMinRtt, p0.xMinAt, p0.xNextAt, p0.xPhaseAt, p0.xDoneAt, p0.xRound] (fun r45 => kn r45)
def s_bbr_Check_9 {R : Type} (cp : Nat → Nat → Bool) (n : Nat) (p0 : SCc) (v43 v44 v46 : Bool) (kn : Bool → Option R) : Option R :=
  G_bbr_within cp n 1099511627776 [p0.xFull] (fun r47 => cond (r47) (G_bbr_within cp n 3 [p0.xFullN] (fun r48 => cond (r48) (G_bbr_within cp n 7 [p0.xPhase] (fun r49 => cond (r49) (G_bbr_within cp n 1073741824 [p0.xPrior] (fun r50 => kn r50)) (kn false))) (kn false))) (kn false))
def s_bbr_Check_11 {R : Type} (cp : Nat → Nat → Bool) (n : Nat) (p0 : SCc) (v43 v44 v46 v51 : Bool) (kr : Int → Option R) : Option R :=
  cond (!v43) (kr 230) (cond (!v44) (kr 230) (cond (!v46) (kr 230) (cond (!v51) (kr 230) (cond (decide (p0.xMode < 1)) (kr 230) (cond (decide (4 < p0.xMode)) (kr 230) (G_bbr_ctl_entries cp n (ST68.mk p0.xKind p0.xMss p0.xCwnd p0.xSsthresh p0.xAcc p0.xWmax p0.xEpoch p0.xK p0.xWest p0.xStart p0.xMode p0.xBw p0.xMinRtt p0.xMinAt p0.xRound p0.xNextAt p0.xFull p0.xFullN p0.xPhase p0.xPhaseAt p0.xDoneAt p0.xPrior) (fun r52 r53 => cond (!r52) (kr 230) (kr 0))))))))
def s_bbr_Check_14 {R : Type} (cp : Nat → Nat → Bool) (n : Nat) (p0 : SCc) (v43 v44 v46 : Bool) (kr : Int → Option R) : Option R :=
  s_bbr_Check_9 cp n p0 v43 v44 v46 (fun v51 => s_bbr_Check_11 cp n p0 v43 v44 v46 v51 (fun v54 => (kr v54)))
def s_bbr_Check_16 {R : Type} (cp : Nat → Nat → Bool) (n : Nat) (p0 : SCc) (v43 v44 : Bool) (kr : Int → Option R) : Option R :=
  s_bbr_Check_7 cp n p0 v43 v44 (fun v46 => s_bbr_Check_14 cp n p0 v43 v44 v46 (fun v55 => (kr v55)))
def s_bbr_Check_18 {R : Type} (cp : Nat → Nat → Bool) (n : Nat) (p0 : SCc) (v43 : Bool) (kr : Int → Option R) : Option R :=
  s_bbr_Check_5 cp n p0 v43 (fun v44 => s_bbr_Check_16 cp n p0 v43 v44 (fun v56 => (kr v56)))
def s_bbr_Check_20 {R : Type} (cp : Nat → Nat → Bool) (n : Nat) (p0 : SCc) (kr : Int → Option R) : Option R :=
  s_bbr_Check_3 cp n p0 (fun v43 => s_bbr_Check_18 cp n p0 v43 (fun v57 => (kr v57)))
def s_bbr_Check_22 {R : Type} (cp : Nat → Nat → Bool) (n : Nat) (p0 : SCc) (kr : Int → Option R) : Option R :=
  s_bbr_Check_1 cp n p0 (s_bbr_Check_20 cp n p0 (fun v58 => (kr v58)))
def G_bbr_Check {R : Type} (cp : Nat → Nat → Bool) : Nat → SCc → (Int → Option R) → Option R
  | 0, _, _ => none
  | n + 1, p0, k =>
    s_bbr_Check_22 cp n p0 (fun v59 => k v59)
/-! tideway/cc.Check -/
def G_cc_Check {R : Type} (cp : Nat → Nat → Bool) : Nat → SCc → (Int → Option R) → Option R
  | 0, _, _ => none
  | n + 1, p0, k =>
    cond (decide (p0.xKind = 1)) (G_reno_Check cp n p0 (fun r34 => k r34)) (cond (decide (p0.xKind = 2)) (G_cubic_Check cp n p0 (fun r42 => k r42)) (G_bbr_Check cp n p0 (fun r60 => k r60)))
/-! tideway/cc.asked -/
def G_cc_asked {R : Type} (cp : Nat → Nat → Bool) : Nat → SCc → Bool → (Int → Option R) → Option R
  | 0, _, _, _ => none
  | n + 1, p0, p1, k =>
    G_cc_Check cp n p0 (fun r61 => cond (!decide (r61 = 0)) (k r61) (cond (!p1) (k 2) (k 0)))
/-! tideway/cc.Rest -/
def s_cc_Rest_1 {R : Type} (cp : Nat → Nat → Bool) (n : Nat) (p0 : SCc) (p1 p2 p3 : Int) (kn : Option R) : Option R :=
  kn
def s_cc_Rest_3 {R : Type} (cp : Nat → Nat → Bool) (n : Nat) (p0 : SCc) (p1 p2 p3 : Int) (kn : Int → Option R) : Option R :=
  G_cc_time cp n p1 (fun r23 => cond (r23) (G_cc_time cp n p2 (fun r24 => cond (r24) (G_cc_size cp n p3 (fun r25 => G_cc_asked cp n p0 r25 (fun r26 => kn r26))) (G_cc_asked cp n p0 false (fun r27 => kn r27)))) (G_cc_asked cp n p0 false (fun r28 => kn r28)))
def s_cc_Rest_5 {R : Type} (cp : Nat → Nat → Bool) (n : Nat) (p0 : SCc) (p1 p2 p3 v29 : Int) (kn : Option R) (kr : Option R) : Option R :=
  cond (!decide (v29 = 0)) (kr) (kn)
def s_cc_Rest_8 {R : Type} (cp : Nat → Nat → Bool) (n : Nat) (p0 : SCc) (p1 p2 p3 : Int) (kn : Option R) (kr : Int → Option R) : Option R :=
  s_cc_Rest_3 cp n p0 p1 p2 p3 (fun v29 => s_cc_Rest_5 cp n p0 p1 p2 p3 v29 kn (kr v29))
def s_cc_Rest_9 {R : Type} (cp : Nat → Nat → Bool) (n : Nat) (p0 : SCc) (p1 p2 p3 : Int) (kr : Int → Int → Option R) : Option R :=
  cond (decide (p0.xKind = 3)) (kr p0.xCwnd p0.xSsthresh) (cond (decide (p2 = 0)) (kr p0.xCwnd p0.xSsthresh) (cond (decide (p1 ≤ p2)) (kr p0.xCwnd p0.xSsthresh) (cond (decide (p2 = 0)) (none) (cond (decide ((mn 20 (wr .i64 (Int.tdiv p1 p2))) < 0)) (none) (kr (mn p0.xCwnd (mx (mx (shr .i64 p0.xCwnd (mn 20 (wr .i64 (Int.tdiv p1 p2)))) p3) (wr .i64 (2 * p0.xMss)))) (mx p0.xSsthresh (wr .i64 (Int.tdiv (wr .i64 (3 * p0.xCwnd)) 4))))))))
def s_cc_Rest_12 {R : Type} (cp : Nat → Nat → Bool) (n : Nat) (p0 : SCc) (p1 p2 p3 : Int) (kr : Int → SCc → Option R) : Option R :=
  s_cc_Rest_8 cp n p0 p1 p2 p3 (s_cc_Rest_9 cp n p0 p1 p2 p3 (fun v31 v32 => (kr 0 (SCc.mk p0.xKind p0.xMss v31 v32 p0.xAcc p0.xWmax p0.xEpoch p0.xK p0.xWest p0.xStart p0.xMode p0.xBw p0.xMinRtt p0.xMinAt p0.xRound p0.xNextAt p0.xFull p0.xFullN p0.xPhase p0.xPhaseAt p0.xDoneAt p0.xPrior)))) (fun v30 => (kr v30 (SCc.mk 0 0 0 0 0 0 0 0 0 0 0 [] 0 0 0 0 0 0 0 0 0 0)))
def s_cc_Rest_14 {R : Type} (cp : Nat → Nat → Bool) (n : Nat) (p0 : SCc) (p1 p2 p3 : Int) (kr : Int → SCc → Option R) : Option R :=
  s_cc_Rest_1 cp n p0 p1 p2 p3 (s_cc_Rest_12 cp n p0 p1 p2 p3 (fun v33 v34 => (kr v33 v34)))
def G_cc_Rest {R : Type} (cp : Nat → Nat → Bool) : Nat → SCc → Int → Int → Int → (SCc → Int → Option R) → Option R
  | 0, _, _, _, _, _ => none
  | n + 1, p0, p1, p2, p3, k =>
    s_cc_Rest_14 cp n p0 p1 p2 p3 (fun v35 v36 => k v36 v35)
/-! tideway/bbr.Gain -/
def G_bbr_Gain {R : Type} (cp : Nat → Nat → Bool) : Nat → SCc → (Int → Option R) → Option R
  | 0, _, _ => none
  | n + 1, p0, k =>
    G_bbr_Check cp n p0 (fun r45 => cond (!decide (r45 = 0)) (k 0) (cond (decide (p0.xMode = 1)) (k 289) (cond (decide (p0.xMode = 2)) (k 35) (cond (decide (p0.xMode = 3)) (cond (decide (p0.xPhase = 0)) (k 125) (cond (decide (p0.xMode = 3)) (cond (decide (p0.xPhase = 1)) (k 75) (k 100)) (k 100))) (cond (decide (p0.xMode = 3)) (cond (decide (p0.xPhase = 1)) (k 75) (k 100)) (k 100))))))
/-! tideway/filter.Best -/
def G_filter_Best {R : Type} (cp : Nat → Nat → Bool) : Nat → (List SEntry) → (Int → Bool → Option R) → Option R
  | 0, _, _ => none
  | n + 1, p0, k =>
    cond (decide ((p0.length : Int) = 0)) (k 0 false) (cond (decide (0 < (p0.length : Int))) (k ((p0.getD 0 zEntry).xV) true) (none))
/-! (*tideway/bbr.ctl).bandwidth -/
def G_bbr_ctl_bandwidth {R : Type} (cp : Nat → Nat → Bool) : Nat → ST68 → (Int → ST68 → Option R) → Option R
  | 0, _, _ => none
  | n + 1, q0, k =>
    G_filter_Best cp n q0.xCc_Bw (fun r48 r49 => k r48 q0)
/-! tideway/bbr.Bandwidth -/
def G_bbr_Bandwidth {R : Type} (cp : Nat → Nat → Bool) : Nat → SCc → (Int → Option R) → Option R
  | 0, _, _ => none
  | n + 1, p0, k =>
    G_bbr_Check cp n p0 (fun r47 => cond (!decide (r47 = 0)) (k 0) (G_bbr_ctl_bandwidth cp n (ST68.mk p0.xKind p0.xMss p0.xCwnd p0.xSsthresh p0.xAcc p0.xWmax p0.xEpoch p0.xK p0.xWest p0.xStart p0.xMode p0.xBw p0.xMinRtt p0.xMinAt p0.xRound p0.xNextAt p0.xFull p0.xFullN p0.xPhase p0.xPhaseAt p0.xDoneAt p0.xPrior) (fun r50 r51 => k r50)))
/-! math/bits.Mul64 -/
def G_math_bits_Mul64 {R : Type} (cp : Nat → Nat → Bool) : Nat → Int → Int → (Int → Int → Option R) → Option R
  | 0, _, _, _ => none
  | n + 1, p0, p1, k =>
    k (wr .u64 ((wr .u64 ((wr .u64 ((shr .u64 p0 32) * (shr .u64 p1 32))) + (shr .u64 (wr .u64 ((wr .u64 ((shr .u64 p0 32) * (bits .and .u64 p1 4294967295))) + (shr .u64 (wr .u64 ((bits .and .u64 p0 4294967295) * (bits .and .u64 p1 4294967295))) 32))) 32))) + (shr .u64 (wr .u64 ((bits .and .u64 (wr .u64 ((wr .u64 ((shr .u64 p0 32) * (bits .and .u64 p1 4294967295))) + (shr .u64 (wr .u64 ((bits .and .u64 p0 4294967295) * (bits .and .u64 p1 4294967295))) 32))) 4294967295) + (wr .u64 ((bits .and .u64 p0 4294967295) * (shr .u64 p1 32))))) 32))) (wr .u64 (p0 * p1))
/-! math/bits.Len64 -/
def G_math_bits_Len64 {R : Type} (cp : Nat → Nat → Bool) : Nat → Int → (Int → Option R) → Option R
  | 0, _, _ => none
  | n + 1, p0, k =>
    cond (decide (4294967296 ≤ p0)) (cond (decide (65536 ≤ (shr .u64 p0 32))) (cond (decide (256 ≤ (shr .u64 (shr .u64 p0 32) 16))) (cond (decide (0 ≤ wr .u8 (shr .u64 (shr .u64 (shr .u64 p0 32) 16) 8))) (cond (decide (wr .u8 (shr .u64 (shr .u64 (shr .u64 p0 32) 16) 8) < (ByteArray.size tab256_2793 : Int))) (k (wr .i64 ((wr .i64 ((wr .i64 (32 + 16)) + 8)) + (wr .i64 ((tab256_2793.data.getD (Int.toNat (wr .u8 (shr .u64 (shr .u64 (shr .u64 p0 32) 16) 8))) 0).toNat : Int))))) (none)) (none)) (cond (decide (0 ≤ wr .u8 (shr .u64 (shr .u64 p0 32) 16))) (cond (decide (wr .u8 (shr .u64 (shr .u64 p0 32) 16) < (ByteArray.size tab256_2793 : Int))) (k (wr .i64 ((wr .i64 (32 + 16)) + (wr .i64 ((tab256_2793.data.getD (Int.toNat (wr .u8 (shr .u64 (shr .u64 p0 32) 16))) 0).toNat : Int))))) (none)) (none))) (cond (decide (256 ≤ (shr .u64 p0 32))) (cond (decide (0 ≤ wr .u8 (shr .u64 (shr .u64 p0 32) 8))) (cond (decide (wr .u8 (shr .u64 (shr .u64 p0 32) 8) < (ByteArray.size tab256_2793 : Int))) (k (wr .i64 ((wr .i64 (32 + 8)) + (wr .i64 ((tab256_2793.data.getD (Int.toNat (wr .u8 (shr .u64 (shr .u64 p0 32) 8))) 0).toNat : Int))))) (none)) (none)) (cond (decide (0 ≤ wr .u8 (shr .u64 p0 32))) (cond (decide (wr .u8 (shr .u64 p0 32) < (ByteArray.size tab256_2793 : Int))) (k (wr .i64 (32 + (wr .i64 ((tab256_2793.data.getD (Int.toNat (wr .u8 (shr .u64 p0 32))) 0).toNat : Int))))) (none)) (none)))) (cond (decide (65536 ≤ p0)) (cond (decide (256 ≤ (shr .u64 p0 16))) (cond (decide (0 ≤ wr .u8 (shr .u64 (shr .u64 p0 16) 8))) (cond (decide (wr .u8 (shr .u64 (shr .u64 p0 16) 8) < (ByteArray.size tab256_2793 : Int))) (k (wr .i64 ((wr .i64 ((wr .i64 (0 + 16)) + 8)) + (wr .i64 ((tab256_2793.data.getD (Int.toNat (wr .u8 (shr .u64 (shr .u64 p0 16) 8))) 0).toNat : Int))))) (none)) (none)) (cond (decide (0 ≤ wr .u8 (shr .u64 p0 16))) (cond (decide (wr .u8 (shr .u64 p0 16) < (ByteArray.size tab256_2793 : Int))) (k (wr .i64 ((wr .i64 (0 + 16)) + (wr .i64 ((tab256_2793.data.getD (Int.toNat (wr .u8 (shr .u64 p0 16))) 0).toNat : Int))))) (none)) (none))) (cond (decide (256 ≤ p0)) (cond (decide (0 ≤ wr .u8 (shr .u64 p0 8))) (cond (decide (wr .u8 (shr .u64 p0 8) < (ByteArray.size tab256_2793 : Int))) (k (wr .i64 ((wr .i64 (0 + 8)) + (wr .i64 ((tab256_2793.data.getD (Int.toNat (wr .u8 (shr .u64 p0 8))) 0).toNat : Int))))) (none)) (none)) (cond (decide (0 ≤ wr .u8 p0)) (cond (decide (wr .u8 p0 < (ByteArray.size tab256_2793 : Int))) (k (wr .i64 (0 + (wr .i64 ((tab256_2793.data.getD (Int.toNat (wr .u8 p0)) 0).toNat : Int))))) (none)) (none))))
/-! math/bits.LeadingZeros64 -/
def G_math_bits_LeadingZeros64 {R : Type} (cp : Nat → Nat → Bool) : Nat → Int → (Int → Option R) → Option R
  | 0, _, _ => none
  | n + 1, p0, k =>
    G_math_bits_Len64 cp n p0 (fun r55 => k (wr .i64 (64 - r55)))
/-! math/bits.Div64 -/
def s_math_bits_Div64_1 {R : Type} (cp : Nat → Nat → Bool) (n : Nat) (p0 p1 p2 : Int) (kn : Int → Int → Int → Int → Int → Int → Int → Int → Int → Option R) (kr : Int → Int → Option R) : Option R :=
  cond (decide (p2 = 0)) (none) (cond (decide (p2 ≤ p0)) (none) (cond (decide (p0 = 0)) (cond (decide (p2 = 0)) (none) (cond (decide (p2 = 0)) (none) (kr (wr .u64 (Int.tdiv p1 p2)) (Int.tmod p1 p2)))) (G_math_bits_LeadingZeros64 cp n p2 (fun r65 => cond (decide ((wr .u64 r65) < 0)) (none) (cond (decide ((wr .u64 r65) < 0)) (none) (cond (decide ((wr .u64 (64 - (wr .u64 r65))) < 0)) (none) (cond (decide ((wr .u64 r65) < 0)) (none) (cond (decide ((shr .u64 (shl .u64 p2 (wr .u64 r65)) 32) = 0)) (none) (kn (shl .u64 p2 (wr .u64 r65)) (wr .u64 r65) (shr .u64 (shl .u64 p2 (wr .u64 r65)) 32) (bits .and .u64 (shl .u64 p2 (wr .u64 r65)) 4294967295) (bits .or .u64 (shl .u64 p0 (wr .u64 r65)) (shr .u64 p1 (wr .u64 (64 - (wr .u64 r65))))) (shr .u64 (shl .u64 p1 (wr .u64 r65)) 32) (bits .and .u64 (shl .u64 p1 (wr .u64 r65)) 4294967295) (wr .u64 (Int.tdiv (bits .or .u64 (shl .u64 p0 (wr .u64 r65)) (shr .u64 p1 (wr .u64 (64 - (wr .u64 r65))))) (shr .u64 (shl .u64 p2 (wr .u64 r65)) 32))) (wr .u64 ((bits .or .u64 (shl .u64 p0 (wr .u64 r65)) (shr .u64 p1 (wr .u64 (64 - (wr .u64 r65))))) - (wr .u64 ((wr .u64 (Int.tdiv (bits .or .u64 (shl .u64 p0 (wr .u64 r65)) (shr .u64 p1 (wr .u64 (64 - (wr .u64 r65))))) (shr .u64 (shl .u64 p2 (wr .u64 r65)) 32))) * (shr .u64 (shl .u64 p2 (wr .u64 r65)) 32))))))))))))))
def s_math_bits_Div64_4 {R : Type} (cp : Nat → Nat → Bool) (n : Nat) (v66 v67 v68 v69 v70 v71 v72 v77 v78 : Int) (kn : Int → Int → Option R) (ke0 : Int → Option R) : Option R :=
  cond (decide (4294967296 ≤ v77)) (cond (decide (4294967296 ≤ (wr .u64 (v78 + v68)))) (ke0 (wr .u64 (v77 - 1))) (kn (wr .u64 (v77 - 1)) (wr .u64 (v78 + v68)))) (cond (decide ((wr .u64 ((wr .u64 (4294967296 * v78)) + v71)) < (wr .u64 (v77 * v69)))) (cond (decide (4294967296 ≤ (wr .u64 (v78 + v68)))) (ke0 (wr .u64 (v77 - 1))) (kn (wr .u64 (v77 - 1)) (wr .u64 (v78 + v68)))) (ke0 v77))
def l_math_bits_Div64_9 {R : Type} (cp : Nat → Nat → Bool) (n : Nat) : Nat → Int → Int → Int → Int → Int → Int → Int → Int → Int → (Int → Option R) → Option R
  | 0, _, _, _, _, _, _, _, _, _, _ => none
  | m + 1, v66, v67, v68, v69, v70, v71, v72, v77, v78, ke0 =>
    s_math_bits_Div64_4 cp n v66 v67 v68 v69 v70 v71 v72 v77 v78 (fun v79 v80 => l_math_bits_Div64_9 cp n m v66 v67 v68 v69 v70 v71 v72 v79 v80 ke0) (fun v81 => (ke0 v81))
def s_math_bits_Div64_10 {R : Type} (cp : Nat → Nat → Bool) (n : Nat) (v66 v67 v68 v69 v70 v71 v72 v73 v74 : Int) (ke0 : Int → Option R) : Option R :=
  l_math_bits_Div64_9 cp n n v66 v67 v68 v69 v70 v71 v72 v73 v74 ke0
def s_math_bits_Div64_12 {R : Type} (cp : Nat → Nat → Bool) (n : Nat) (v66 v67 v68 v69 v70 v71 v72 v73 v74 : Int) (kn : Int → Option R) : Option R :=
  s_math_bits_Div64_10 cp n v66 v67 v68 v69 v70 v71 v72 v73 v74 (fun v82 => (kn v82))
def s_math_bits_Div64_13 {R : Type} (cp : Nat → Nat → Bool) (n : Nat) (v66 v67 v68 v69 v70 v71 v72 v83 : Int) (kn : Int → Int → Int → Option R) : Option R :=
  cond (decide (v68 = 0)) (none) (kn (wr .u64 ((wr .u64 ((wr .u64 ((wr .u64 (v70 * 4294967296)) + v71)) - (wr .u64 (v83 * v66)))) - (wr .u64 ((wr .u64 (Int.tdiv (wr .u64 ((wr .u64 ((wr .u64 (v70 * 4294967296)) + v71)) - (wr .u64 (v83 * v66)))) v68)) * v68)))) (wr .u64 ((wr .u64 ((wr .u64 (v70 * 4294967296)) + v71)) - (wr .u64 (v83 * v66)))) (wr .u64 (Int.tdiv (wr .u64 ((wr .u64 ((wr .u64 (v70 * 4294967296)) + v71)) - (wr .u64 (v83 * v66)))) v68)))
def s_math_bits_Div64_15 {R : Type} (cp : Nat → Nat → Bool) (n : Nat) (v66 v67 v68 v69 v72 v83 v85 v87 v88 : Int) (kn : Int → Int → Option R) (ke2 : Int → Option R) : Option R :=
  cond (decide (4294967296 ≤ v88)) (cond (decide (4294967296 ≤ (wr .u64 (v87 + v68)))) (ke2 (wr .u64 (v88 - 1))) (kn (wr .u64 (v87 + v68)) (wr .u64 (v88 - 1)))) (cond (decide ((wr .u64 ((wr .u64 (4294967296 * v87)) + v72)) < (wr .u64 (v88 * v69)))) (cond (decide (4294967296 ≤ (wr .u64 (v87 + v68)))) (ke2 (wr .u64 (v88 - 1))) (kn (wr .u64 (v87 + v68)) (wr .u64 (v88 - 1)))) (ke2 v88))
def l_math_bits_Div64_20 {R : Type} (cp : Nat → Nat → Bool) (n : Nat) : Nat → Int → Int → Int → Int → Int → Int → Int → Int → Int → (Int → Option R) → Option R
  | 0, _, _, _, _, _, _, _, _, _, _ => none
  | m + 1, v66, v67, v68, v69, v72, v83, v85, v87, v88, ke2 =>
    s_math_bits_Div64_15 cp n v66 v67 v68 v69 v72 v83 v85 v87 v88 (fun v89 v90 => l_math_bits_Div64_20 cp n m v66 v67 v68 v69 v72 v83 v85 v89 v90 ke2) (fun v91 => (ke2 v91))
def s_math_bits_Div64_21 {R : Type} (cp : Nat → Nat → Bool) (n : Nat) (v66 v67 v68 v69 v72 v83 v84 v85 v86 : Int) (ke2 : Int → Option R) : Option R :=
  l_math_bits_Div64_20 cp n n v66 v67 v68 v69 v72 v83 v85 v84 v86 ke2
def s_math_bits_Div64_23 {R : Type} (cp : Nat → Nat → Bool) (n : Nat) (v66 v67 v68 v69 v72 v83 v84 v85 v86 : Int) (kn : Int → Option R) : Option R :=
  s_math_bits_Div64_21 cp n v66 v67 v68 v69 v72 v83 v84 v85 v86 (fun v92 => (kn v92))
def s_math_bits_Div64_24 {R : Type} (cp : Nat → Nat → Bool) (n : Nat) (v66 v67 v72 v83 v85 v93 : Int) (kr : Int → Int → Option R) : Option R :=
  cond (decide (v67 < 0)) (none) (kr (wr .u64 ((wr .u64 (v83 * 4294967296)) + v93)) (shr .u64 (wr .u64 ((wr .u64 ((wr .u64 (v85 * 4294967296)) + v72)) - (wr .u64 (v93 * v66)))) v67))
def s_math_bits_Div64_27 {R : Type} (cp : Nat → Nat → Bool) (n : Nat) (v66 v67 v68 v69 v72 v83 v84 v85 v86 : Int) (kr : Int → Int → Option R) : Option R :=
  s_math_bits_Div64_23 cp n v66 v67 v68 v69 v72 v83 v84 v85 v86 (fun v93 => s_math_bits_Div64_24 cp n v66 v67 v72 v83 v85 v93 (fun v94 v95 => (kr v94 v95)))
def s_math_bits_Div64_29 {R : Type} (cp : Nat → Nat → Bool) (n : Nat) (v66 v67 v68 v69 v70 v71 v72 v83 : Int) (kr : Int → Int → Option R) : Option R :=
  s_math_bits_Div64_13 cp n v66 v67 v68 v69 v70 v71 v72 v83 (fun v84 v85 v86 => s_math_bits_Div64_27 cp n v66 v67 v68 v69 v72 v83 v84 v85 v86 (fun v96 v97 => (kr v96 v97)))
def s_math_bits_Div64_31 {R : Type} (cp : Nat → Nat → Bool) (n : Nat) (v66 v67 v68 v69 v70 v71 v72 v73 v74 : Int) (kr : Int → Int → Option R) : Option R :=
  s_math_bits_Div64_12 cp n v66 v67 v68 v69 v70 v71 v72 v73 v74 (fun v83 => s_math_bits_Div64_29 cp n v66 v67 v68 v69 v70 v71 v72 v83 (fun v98 v99 => (kr v98 v99)))
def s_math_bits_Div64_33 {R : Type} (cp : Nat → Nat → Bool) (n : Nat) (p0 p1 p2 : Int) (kr : Int → Int → Option R) : Option R :=
  s_math_bits_Div64_1 cp n p0 p1 p2 (fun v66 v67 v68 v69 v70 v71 v72 v73 v74 => s_math_bits_Div64_31 cp n v66 v67 v68 v69 v70 v71 v72 v73 v74 (fun v100 v101 => (kr v100 v101))) (fun v75 v76 => (kr v75 v76))
def G_math_bits_Div64 {R : Type} (cp : Nat → Nat → Bool) : Nat → Int → Int → Int → (Int → Int → Option R) → Option R
  | 0, _, _, _, _ => none
  | n + 1, p0, p1, p2, k =>
    s_math_bits_Div64_33 cp n p0 p1 p2 (fun v102 v103 => k v102 v103)
/-! tideway/seq.MulDiv -/
def G_seq_MulDiv {R : Type} (cp : Nat → Nat → Bool) : Nat → Int → Int → Int → (Int → Int → Option R) → Option R
  | 0, _, _, _, _ => none
  | n + 1, p0, p1, p2, k =>
    cond (decide (p0 < 0)) (k 0 2) (cond (decide (p1 < 0)) (k 0 2) (cond (decide (p2 ≤ 0)) (k 0 2) (G_math_bits_Mul64 cp n (wr .u64 p0) (wr .u64 p1) (fun r53 r54 => cond (decide ((wr .u64 p2) ≤ r53)) (k 9223372036854775807 0) (G_math_bits_Div64 cp n r53 r54 (wr .u64 p2) (fun r104 r105 => k (wr .i64 (mn r104 9223372036854775807)) 0))))))
/-! tideway/cc.Pace -/
def s_cc_Pace_1 {R : Type} (cp : Nat → Nat → Bool) (n : Nat) (p0 : SCc) (p1 p2 : Int) (kn : Int → Int → Option R) (kr : Option R) : Option R :=
  G_cc_Check cp n p0 (fun r46 => cond (!decide (r46 = 0)) (kr) (cond (decide (p0.xKind = 3)) (G_bbr_Gain cp n p0 (fun r47 => G_bbr_Bandwidth cp n p0 (fun r48 => kn 289 (wr .i64 (Int.tdiv (wr .i64 (r47 * r48)) 100))))) (cond (decide (p0.xCwnd < p0.xSsthresh)) (kn 200 0) (kn 120 0))))
def s_cc_Pace_4 {R : Type} (cp : Nat → Nat → Bool) (n : Nat) (p0 : SCc) (p1 p2 v49 v50 : Int) (kr : Int → Option R) : Option R :=
  cond (decide (v50 = 0)) (cond (decide ((mn p1 1125899906842624) < 1)) (G_seq_MulDiv cp n p0.xCwnd (wr .i64 (v49 * 1000000)) (wr .i64 (100 * 1000)) (fun r51 r52 => kr (mn 1099511627776 (mx (mx 1 p2) r51)))) (G_seq_MulDiv cp n p0.xCwnd (wr .i64 (v49 * 1000000)) (wr .i64 (100 * (mn p1 1125899906842624))) (fun r53 r54 => kr (mn 1099511627776 (mx (mx 1 p2) r53))))) (kr (mn 1099511627776 (mx (mx 1 p2) v50)))
def s_cc_Pace_7 {R : Type} (cp : Nat → Nat → Bool) (n : Nat) (p0 : SCc) (p1 p2 : Int) (kr : Int → Option R) : Option R :=
  s_cc_Pace_1 cp n p0 p1 p2 (fun v49 v50 => s_cc_Pace_4 cp n p0 p1 p2 v49 v50 (fun v55 => (kr v55))) (kr 0)
def G_cc_Pace {R : Type} (cp : Nat → Nat → Bool) : Nat → SCc → Int → Int → (Int → Option R) → Option R
  | 0, _, _, _, _ => none
  | n + 1, p0, p1, p2, k =>
    s_cc_Pace_7 cp n p0 p1 p2 (fun v56 => k v56)
/-! tideway/tidewaylaw19.heads -/
def s_law19_heads_1 {R : Type} (cp : Nat → Nat → Bool) (n : Nat) (kn : Int → Int → Int → Int → SCc → SCc → SCc → Option R) : Option R :=
  G_cc_New cp n 1 100 10 (fun r27 r28 => G_cc_New cp n 2 100 10 (fun r29 r30 => G_cc_New cp n 3 100 10 (fun r31 r32 => G_cc_New cp n 4 1 1 (fun r33 r34 => kn r28 r30 r32 r34 r27 r29 r31))))
def s_law19_heads_3 {R : Type} (cp : Nat → Nat → Bool) (n : Nat) (v35 v36 v37 v38 : Int) (v39 v40 v41 : SCc) (kr : Bool → Option R) : Option R :=
  G_cc_Rest cp n v39 5000 1000 0 (fun r42 r43 => cond (decide (v35 = 0)) (cond (decide (v36 = 0)) (cond (decide (v37 = 0)) (cond (decide (v38 = 2)) (G_cc_Pace cp n v39 100000 0 (fun r57 => cond (decide (r57 = 20000)) (cond (decide (v40.xKind = 2)) (cond (decide (v41.xMode = 1)) (cond (decide (r43 = 0)) (cond (decide (r42.xCwnd = 200)) (cond (decide (r42.xSsthresh = v39.xSsthresh)) (G_cc_Check cp n (SCc.mk 0 0 0 0 0 0 0 0 0 0 0 [] 0 0 0 0 0 0 0 0 0 0) (fun r58 => kr (decide (r58 = 230)))) (kr false)) (kr false)) (kr false)) (kr false)) (kr false)) (kr false))) (kr false)) (kr false)) (kr false)) (kr false))
def s_law19_heads_6 {R : Type} (cp : Nat → Nat → Bool) (n : Nat) (kr : Bool → Option R) : Option R :=
  s_law19_heads_1 cp n (fun v35 v36 v37 v38 v39 v40 v41 => s_law19_heads_3 cp n v35 v36 v37 v38 v39 v40 v41 (fun v59 => (kr v59)))
def G_law19_heads {R : Type} (cp : Nat → Nat → Bool) : Nat → (Bool → Option R) → Option R
  | 0, _ => none
  | n + 1, k =>
    s_law19_heads_6 cp n (fun v60 => k v60)
/-! tideway/reno.begun -/
def G_reno_begun {R : Type} (cp : Nat → Nat → Bool) : Nat → SCc → Int → (Int → Sctl → Option R) → Option R
  | 0, _, _, _ => none
  | n + 1, p0, p1, k =>
    G_reno_Check cp n p0 (fun r70 => cond (!decide (r70 = 0)) (k 230 (Sctl.mk 0 0 0 0 0 0 0 0 0 0 0 [] 0 0 0 0 0 0 0 0 0 0)) (G_reno_size cp n p1 (fun r71 => cond (!r71) (k 2 (Sctl.mk 0 0 0 0 0 0 0 0 0 0 0 [] 0 0 0 0 0 0 0 0 0 0)) (k 0 (Sctl.mk p0.xKind p0.xMss p0.xCwnd p0.xSsthresh p0.xAcc p0.xWmax p0.xEpoch p0.xK p0.xWest p0.xStart p0.xMode p0.xBw p0.xMinRtt p0.xMinAt p0.xRound p0.xNextAt p0.xFull p0.xFullN p0.xPhase p0.xPhaseAt p0.xDoneAt p0.xPrior)))))
/-! tideway/reno.Loss -/
def G_reno_Loss {R : Type} (cp : Nat → Nat → Bool) : Nat → SCc → Int → (SCc → Int → Option R) → Option R
  | 0, _, _, _ => none
  | n + 1, p0, p1, k =>
    G_reno_begun cp n p0 p1 (fun r72 r73 => cond (decide (r72 = 0)) (k (SCc.mk r73.xCc_Kind r73.xCc_Mss r73.xCc_Cwnd (mx (wr .i64 (2 * r73.xCc_Mss)) (wr .i64 (Int.tdiv p1 2))) 0 r73.xCc_Wmax r73.xCc_Epoch r73.xCc_K r73.xCc_West r73.xCc_Start r73.xCc_Mode r73.xCc_Bw r73.xCc_MinRtt r73.xCc_MinAt r73.xCc_Round r73.xCc_NextAt r73.xCc_Full r73.xCc_FullN r73.xCc_Phase r73.xCc_PhaseAt r73.xCc_DoneAt r73.xCc_Prior) r72) (k (SCc.mk r73.xCc_Kind r73.xCc_Mss r73.xCc_Cwnd r73.xCc_Ssthresh r73.xCc_Acc r73.xCc_Wmax r73.xCc_Epoch r73.xCc_K r73.xCc_West r73.xCc_Start r73.xCc_Mode r73.xCc_Bw r73.xCc_MinRtt r73.xCc_MinAt r73.xCc_Round r73.xCc_NextAt r73.xCc_Full r73.xCc_FullN r73.xCc_Phase r73.xCc_PhaseAt r73.xCc_DoneAt r73.xCc_Prior) r72))
/-! (*tideway/cubic.ctl).fall -/
def G_cubic_ctl_fall {R : Type} (cp : Nat → Nat → Bool) : Nat → ST85 → (ST85 → Option R) → Option R
  | 0, _, _ => none
  | n + 1, q0, k =>
    cond (decide (q0.xCc_Cwnd < q0.xCc_Wmax)) (k (ST85.mk q0.xCc_Kind q0.xCc_Mss q0.xCc_Cwnd (mx (wr .i64 (2 * q0.xCc_Mss)) (wr .i64 (Int.tdiv (wr .i64 (7 * q0.xCc_Cwnd)) 10))) 0 (wr .i64 (Int.tdiv (wr .i64 (17 * q0.xCc_Cwnd)) 20)) (-1) q0.xCc_K q0.xCc_West q0.xCc_Start q0.xCc_Mode q0.xCc_Bw q0.xCc_MinRtt q0.xCc_MinAt q0.xCc_Round q0.xCc_NextAt q0.xCc_Full q0.xCc_FullN q0.xCc_Phase q0.xCc_PhaseAt q0.xCc_DoneAt q0.xCc_Prior)) (k (ST85.mk q0.xCc_Kind q0.xCc_Mss q0.xCc_Cwnd (mx (wr .i64 (2 * q0.xCc_Mss)) (wr .i64 (Int.tdiv (wr .i64 (7 * q0.xCc_Cwnd)) 10))) 0 q0.xCc_Cwnd (-1) q0.xCc_K q0.xCc_West q0.xCc_Start q0.xCc_Mode q0.xCc_Bw q0.xCc_MinRtt q0.xCc_MinAt q0.xCc_Round q0.xCc_NextAt q0.xCc_Full q0.xCc_FullN q0.xCc_Phase q0.xCc_PhaseAt q0.xCc_DoneAt q0.xCc_Prior))
/-! tideway/cubic.moved -/
def G_cubic_moved {R : Type} (cp : Nat → Nat → Bool) : Nat → SCc → Int → (SCc → Int → Option R) → Option R
  | 0, _, _, _ => none
  | n + 1, p0, p1, k =>
    G_cubic_Check cp n p0 (fun r83 => cond (!decide (r83 = 0)) (k (SCc.mk 0 0 0 0 0 0 0 0 0 0 0 [] 0 0 0 0 0 0 0 0 0 0) 230) (G_cubic_size cp n [p1] (fun r84 => cond (!r84) (k (SCc.mk 0 0 0 0 0 0 0 0 0 0 0 [] 0 0 0 0 0 0 0 0 0 0) 2) (G_cubic_ctl_fall cp n (ST85.mk p0.xKind p0.xMss p0.xCwnd p0.xSsthresh p0.xAcc p0.xWmax p0.xEpoch p0.xK p0.xWest p0.xStart p0.xMode p0.xBw p0.xMinRtt p0.xMinAt p0.xRound p0.xNextAt p0.xFull p0.xFullN p0.xPhase p0.xPhaseAt p0.xDoneAt p0.xPrior) (fun r85 => k (SCc.mk r85.xCc_Kind r85.xCc_Mss r85.xCc_Cwnd r85.xCc_Ssthresh r85.xCc_Acc r85.xCc_Wmax r85.xCc_Epoch r85.xCc_K r85.xCc_West r85.xCc_Start r85.xCc_Mode r85.xCc_Bw r85.xCc_MinRtt r85.xCc_MinAt r85.xCc_Round r85.xCc_NextAt r85.xCc_Full r85.xCc_FullN r85.xCc_Phase r85.xCc_PhaseAt r85.xCc_DoneAt r85.xCc_Prior) 0)))))
/-! tideway/cubic.Loss -/
def G_cubic_Loss {R : Type} (cp : Nat → Nat → Bool) : Nat → SCc → Int → (SCc → Int → Option R) → Option R
  | 0, _, _, _ => none
  | n + 1, p0, p1, k =>
    G_cubic_moved cp n p0 p1 (fun r86 r87 => k r86 r87)
/-! tideway/cc.Loss -/
def G_cc_Loss {R : Type} (cp : Nat → Nat → Bool) : Nat → SCc → Int → (SCc → Int → Option R) → Option R
  | 0, _, _, _ => none
  | n + 1, p0, p1, k =>
    G_cc_size cp n p1 (fun r76 => G_cc_asked cp n p0 r76 (fun r77 => cond (!decide (r77 = 0)) (k (SCc.mk 0 0 0 0 0 0 0 0 0 0 0 [] 0 0 0 0 0 0 0 0 0 0) r77) (cond (decide (p0.xKind = 1)) (G_reno_Loss cp n p0 p1 (fun r78 r79 => k r78 r79)) (cond (decide (p0.xKind = 2)) (G_cubic_Loss cp n p0 p1 (fun r88 r89 => k r88 r89)) (k p0 0)))))
/-! tideway/reno.Timeout -/
def G_reno_Timeout {R : Type} (cp : Nat → Nat → Bool) : Nat → SCc → Int → (SCc → Int → Option R) → Option R
  | 0, _, _, _ => none
  | n + 1, p0, p1, k =>
    G_reno_Loss cp n p0 p1 (fun r95 r96 => k (SCc.mk r95.xKind r95.xMss r95.xMss r95.xSsthresh r95.xAcc r95.xWmax r95.xEpoch r95.xK r95.xWest r95.xStart r95.xMode r95.xBw r95.xMinRtt r95.xMinAt r95.xRound r95.xNextAt r95.xFull r95.xFullN r95.xPhase r95.xPhaseAt r95.xDoneAt r95.xPrior) r96)
/-! (*tideway/cubic.ctl).shut -/
def G_cubic_ctl_shut {R : Type} (cp : Nat → Nat → Bool) : Nat → ST85 → (ST85 → Option R) → Option R
  | 0, _, _ => none
  | n + 1, q0, k =>
    G_cubic_ctl_fall cp n q0 (fun r101 => k (ST85.mk r101.xCc_Kind r101.xCc_Mss r101.xCc_Mss r101.xCc_Ssthresh r101.xCc_Acc r101.xCc_Wmax r101.xCc_Epoch r101.xCc_K r101.xCc_West r101.xCc_Start r101.xCc_Mode r101.xCc_Bw r101.xCc_MinRtt r101.xCc_MinAt r101.xCc_Round r101.xCc_NextAt r101.xCc_Full r101.xCc_FullN r101.xCc_Phase r101.xCc_PhaseAt r101.xCc_DoneAt r101.xCc_Prior))
/-! tideway/cubic.moved -/
def G_cubic_moved_b {R : Type} (cp : Nat → Nat → Bool) : Nat → SCc → Int → (SCc → Int → Option R) → Option R
  | 0, _, _, _ => none
  | n + 1, p0, p1, k =>
    G_cubic_Check cp n p0 (fun r103 => cond (!decide (r103 = 0)) (k (SCc.mk 0 0 0 0 0 0 0 0 0 0 0 [] 0 0 0 0 0 0 0 0 0 0) 230) (G_cubic_size cp n [p1] (fun r104 => cond (!r104) (k (SCc.mk 0 0 0 0 0 0 0 0 0 0 0 [] 0 0 0 0 0 0 0 0 0 0) 2) (G_cubic_ctl_shut cp n (ST85.mk p0.xKind p0.xMss p0.xCwnd p0.xSsthresh p0.xAcc p0.xWmax p0.xEpoch p0.xK p0.xWest p0.xStart p0.xMode p0.xBw p0.xMinRtt p0.xMinAt p0.xRound p0.xNextAt p0.xFull p0.xFullN p0.xPhase p0.xPhaseAt p0.xDoneAt p0.xPrior) (fun r105 => k (SCc.mk r105.xCc_Kind r105.xCc_Mss r105.xCc_Cwnd r105.xCc_Ssthresh r105.xCc_Acc r105.xCc_Wmax r105.xCc_Epoch r105.xCc_K r105.xCc_West r105.xCc_Start r105.xCc_Mode r105.xCc_Bw r105.xCc_MinRtt r105.xCc_MinAt r105.xCc_Round r105.xCc_NextAt r105.xCc_Full r105.xCc_FullN r105.xCc_Phase r105.xCc_PhaseAt r105.xCc_DoneAt r105.xCc_Prior) 0)))))
/-! tideway/cubic.Timeout -/
def G_cubic_Timeout {R : Type} (cp : Nat → Nat → Bool) : Nat → SCc → Int → (SCc → Int → Option R) → Option R
  | 0, _, _, _ => none
  | n + 1, p0, p1, k =>
    G_cubic_moved_b cp n p0 p1 (fun r106 r107 => k r106 r107)
/-! tideway/bbr.Timeout -/
def G_bbr_Timeout {R : Type} (cp : Nat → Nat → Bool) : Nat → SCc → Int → (SCc → Int → Option R) → Option R
  | 0, _, _, _ => none
  | n + 1, p0, p1, k =>
    G_bbr_Check cp n p0 (fun r110 => cond (!decide (r110 = 0)) (k (SCc.mk 0 0 0 0 0 0 0 0 0 0 0 [] 0 0 0 0 0 0 0 0 0 0) 230) (G_bbr_within cp n 1073741824 [p1] (fun r111 => cond (!r111) (k (SCc.mk 0 0 0 0 0 0 0 0 0 0 0 [] 0 0 0 0 0 0 0 0 0 0) 2) (k (SCc.mk p0.xKind p0.xMss p0.xMss p0.xSsthresh p0.xAcc p0.xWmax p0.xEpoch p0.xK p0.xWest p0.xStart p0.xMode p0.xBw p0.xMinRtt p0.xMinAt p0.xRound p0.xNextAt p0.xFull p0.xFullN p0.xPhase p0.xPhaseAt p0.xDoneAt p0.xCwnd) 0))))
/-! tideway/cc.Timeout -/
def G_cc_Timeout {R : Type} (cp : Nat → Nat → Bool) : Nat → SCc → Int → (SCc → Int → Option R) → Option R
  | 0, _, _, _ => none
  | n + 1, p0, p1, k =>
    cond (decide (p0.xKind = 1)) (G_reno_Timeout cp n p0 p1 (fun r97 r98 => k r97 r98)) (cond (decide (p0.xKind = 2)) (G_cubic_Timeout cp n p0 p1 (fun r108 r109 => k r108 r109)) (G_bbr_Timeout cp n p0 p1 (fun r112 r113 => k r112 r113)))
/-! tideway/cc.Done -/
def G_cc_Done {R : Type} (cp : Nat → Nat → Bool) : Nat → SCc → (SCc → Int → Option R) → Option R
  | 0, _, _ => none
  | n + 1, p0, k =>
    G_cc_Check cp n p0 (fun r70 => cond (!decide (r70 = 0)) (k (SCc.mk 0 0 0 0 0 0 0 0 0 0 0 [] 0 0 0 0 0 0 0 0 0 0) r70) (cond (decide (p0.xKind = 2)) (k (SCc.mk p0.xKind p0.xMss p0.xSsthresh p0.xSsthresh p0.xAcc p0.xWmax p0.xEpoch p0.xK p0.xWest p0.xStart p0.xMode p0.xBw p0.xMinRtt p0.xMinAt p0.xRound p0.xNextAt p0.xFull p0.xFullN p0.xPhase p0.xPhaseAt p0.xDoneAt p0.xPrior) 0) (cond (decide (p0.xKind = 1)) (k (SCc.mk p0.xKind p0.xMss p0.xSsthresh p0.xSsthresh p0.xAcc p0.xWmax p0.xEpoch p0.xK p0.xWest p0.xStart p0.xMode p0.xBw p0.xMinRtt p0.xMinAt p0.xRound p0.xNextAt p0.xFull p0.xFullN p0.xPhase p0.xPhaseAt p0.xDoneAt p0.xPrior) 0) (k p0 0))))
/-! tideway/cc.Limit -/
def G_cc_Limit {R : Type} (cp : Nat → Nat → Bool) : Nat → SCc → Int → (SCc → Int → Option R) → Option R
  | 0, _, _, _ => none
  | n + 1, p0, p1, k =>
    G_cc_size cp n p1 (fun r75 => G_cc_asked cp n p0 r75 (fun r76 => cond (!decide (r76 = 0)) (k (SCc.mk 0 0 0 0 0 0 0 0 0 0 0 [] 0 0 0 0 0 0 0 0 0 0) r76) (k (SCc.mk p0.xKind p0.xMss (mx p0.xMss p1) p0.xSsthresh p0.xAcc p0.xWmax p0.xEpoch p0.xK p0.xWest p0.xStart p0.xMode p0.xBw p0.xMinRtt p0.xMinAt p0.xRound p0.xNextAt p0.xFull p0.xFullN p0.xPhase p0.xPhaseAt p0.xDoneAt p0.xPrior) 0)))
/-! (*tideway/bbr.ctl).round -/
def G_bbr_ctl_round {R : Type} (cp : Nat → Nat → Bool) : Nat → SSample → ST68 → (Bool → ST68 → Option R) → Option R
  | 0, _, _, _ => none
  | n + 1, p1, q0, k =>
    cond (decide (p1.xBefore < q0.xCc_NextAt)) (k false q0) (k true (ST68.mk q0.xCc_Kind q0.xCc_Mss q0.xCc_Cwnd q0.xCc_Ssthresh q0.xCc_Acc q0.xCc_Wmax q0.xCc_Epoch q0.xCc_K q0.xCc_West q0.xCc_Start q0.xCc_Mode q0.xCc_Bw q0.xCc_MinRtt q0.xCc_MinAt (mn 1125899906842624 (wr .i64 (q0.xCc_Round + 1))) p1.xGiven q0.xCc_Full q0.xCc_FullN q0.xCc_Phase q0.xCc_PhaseAt q0.xCc_DoneAt q0.xCc_Prior))
/-! tideway/filter.Put -/
def s_filter_Put_1 {R : Type} (cp : Nat → Nat → Bool) (n : Nat) (p0 : (List SEntry)) (p1 p2 p3 : Int) (p4 : Bool) (kn : Int → Option R) (kr : Option R) : Option R :=
  G_filter_Check cp n p0 p4 (fun r90 => cond (!decide (r90 = 0)) (kr) (G_filter_may cp n (SEntry.mk p1 p2) (fun r91 => cond (!r91) (kr) (G_filter_may cp n (SEntry.mk p3 0) (fun r92 => cond (!r92) (kr) (cond (decide (0 < (p0.length : Int))) (cond (decide (0 ≤ wr .i64 ((p0.length : Int) - 1))) (cond (decide (wr .i64 ((p0.length : Int) - 1) < (p0.length : Int))) (cond (decide (p1 ≤ ((p0.getD (Int.toNat (wr .i64 ((p0.length : Int) - 1))) zEntry).xAt))) (kr) (kn (p0.length : Int))) (none)) (none)) (kn (p0.length : Int))))))))
def s_filter_Put_4 {R : Type} (cp : Nat → Nat → Bool) (n : Nat) (p0 : (List SEntry)) (p1 p2 p3 : Int) (p4 : Bool) (v93 v94 : Int) (kn : Int → Option R) (ke0 : Option R) : Option R :=
  cond (decide (v94 < v93)) (cond (decide (0 ≤ v94)) (cond (decide (v94 < (p0.length : Int))) (cond (decide ((wr .i64 (((p0.getD (Int.toNat v94) zEntry).xAt) + p3)) < p1)) (kn (wr .i64 (v94 + 1))) (ke0)) (none)) (none)) (ke0)
def l_filter_Put_9 {R : Type} (cp : Nat → Nat → Bool) (n : Nat) : Nat → (List SEntry) → Int → Int → Int → Bool → Int → Int → (Int → Option R) → Option R
  | 0, _, _, _, _, _, _, _, _ => none
  | m + 1, p0, p1, p2, p3, p4, v93, v94, ke0 =>
    s_filter_Put_4 cp n p0 p1 p2 p3 p4 v93 v94 (fun v95 => l_filter_Put_9 cp n m p0 p1 p2 p3 p4 v93 v95 ke0) (ke0 v94)
def s_filter_Put_10 {R : Type} (cp : Nat → Nat → Bool) (n : Nat) (p0 : (List SEntry)) (p1 p2 p3 : Int) (p4 : Bool) (v93 : Int) (ke0 : Int → Option R) : Option R :=
  l_filter_Put_9 cp n n p0 p1 p2 p3 p4 v93 0 ke0
def s_filter_Put_12 {R : Type} (cp : Nat → Nat → Bool) (n : Nat) (p0 : (List SEntry)) (p1 p2 p3 : Int) (p4 : Bool) (v93 : Int) (kn : Int → Option R) : Option R :=
  s_filter_Put_10 cp n p0 p1 p2 p3 p4 v93 (fun v96 => (kn v96))
def s_filter_Put_13 {R : Type} (cp : Nat → Nat → Bool) (n : Nat) (p0 : (List SEntry)) (p1 p2 : Int) (p4 : Bool) (v97 v98 : Int) (kn : Int → Option R) (ke2 : Option R) : Option R :=
  cond (decide (v97 < v98)) (cond (decide (0 ≤ wr .i64 (v98 - 1))) (cond (decide (wr .i64 (v98 - 1) < (p0.length : Int))) (G_filter_beats cp n p2 ((p0.getD (Int.toNat (wr .i64 (v98 - 1))) zEntry).xV) p4 (fun r99 => cond (r99) (kn (wr .i64 (v98 - 1))) (ke2))) (none)) (none)) (ke2)
def l_filter_Put_18 {R : Type} (cp : Nat → Nat → Bool) (n : Nat) : Nat → (List SEntry) → Int → Int → Bool → Int → Int → (Int → Option R) → Option R
  | 0, _, _, _, _, _, _, _ => none
  | m + 1, p0, p1, p2, p4, v97, v98, ke2 =>
    s_filter_Put_13 cp n p0 p1 p2 p4 v97 v98 (fun v100 => l_filter_Put_18 cp n m p0 p1 p2 p4 v97 v100 ke2) (ke2 v98)
def s_filter_Put_19 {R : Type} (cp : Nat → Nat → Bool) (n : Nat) (p0 : (List SEntry)) (p1 p2 : Int) (p4 : Bool) (v93 v97 : Int) (ke2 : Int → Option R) : Option R :=
  l_filter_Put_18 cp n n p0 p1 p2 p4 v97 v93 ke2
def s_filter_Put_21 {R : Type} (cp : Nat → Nat → Bool) (n : Nat) (p0 : (List SEntry)) (p1 p2 : Int) (p4 : Bool) (v93 v97 : Int) (kn : Int → Option R) : Option R :=
  s_filter_Put_19 cp n p0 p1 p2 p4 v93 v97 (fun v101 => (kn v101))
def s_filter_Put_22 {R : Type} (cp : Nat → Nat → Bool) (n : Nat) (p0 : (List SEntry)) (p1 p2 v97 v102 : Int) (kr : (List SEntry) → Option R) : Option R :=
  cond (decide (0 ≤ v97)) (cond (decide (v97 ≤ v102)) (cond (decide (v102 ≤ (p0.length : Int))) (cond (decide (v102 = v102)) (cond (cp ((List.take ((Int.toNat v102) - (Int.toNat v97)) (p0.drop (Int.toNat v97))).length + [(SEntry.mk p1 p2)].length) 16) (kr ((List.take ((Int.toNat v102) - (Int.toNat v97)) (p0.drop (Int.toNat v97))) ++ [(SEntry.mk p1 p2)])) (none)) (none)) (none)) (none)) (none)
def s_filter_Put_25 {R : Type} (cp : Nat → Nat → Bool) (n : Nat) (p0 : (List SEntry)) (p1 p2 : Int) (p4 : Bool) (v93 v97 : Int) (kr : (List SEntry) → Option R) : Option R :=
  s_filter_Put_21 cp n p0 p1 p2 p4 v93 v97 (fun v102 => s_filter_Put_22 cp n p0 p1 p2 v97 v102 (fun v103 => (kr v103)))
def s_filter_Put_27 {R : Type} (cp : Nat → Nat → Bool) (n : Nat) (p0 : (List SEntry)) (p1 p2 p3 : Int) (p4 : Bool) (v93 : Int) (kr : (List SEntry) → Option R) : Option R :=
  s_filter_Put_12 cp n p0 p1 p2 p3 p4 v93 (fun v97 => s_filter_Put_25 cp n p0 p1 p2 p4 v93 v97 (fun v104 => (kr v104)))
def s_filter_Put_29 {R : Type} (cp : Nat → Nat → Bool) (n : Nat) (p0 : (List SEntry)) (p1 p2 p3 : Int) (p4 : Bool) (kr : (List SEntry) → Int → Option R) : Option R :=
  s_filter_Put_1 cp n p0 p1 p2 p3 p4 (fun v93 => s_filter_Put_27 cp n p0 p1 p2 p3 p4 v93 (fun v105 => (kr v105 0))) (kr [] 2)
def G_filter_Put {R : Type} (cp : Nat → Nat → Bool) : Nat → (List SEntry) → Int → Int → Int → Bool → ((List SEntry) → Int → Option R) → Option R
  | 0, _, _, _, _, _, _ => none
  | n + 1, p0, p1, p2, p3, p4, k =>
    s_filter_Put_29 cp n p0 p1 p2 p3 p4 (fun v106 v107 => k v106 v107)
/-! (*tideway/bbr.ctl).speed -/
def s_bbr_ctl_speed_1 {R : Type} (cp : Nat → Nat → Bool) (n : Nat) (p1 : SSample) (q0 : ST68) (kn : Int → Option R) (kr : Option R) : Option R :=
  cond (decide ((mn 1099511627776 p1.xRate) = 0)) (kr) (cond (p1.xIdle) (G_bbr_ctl_bandwidth cp n q0 (fun r87 r88 => cond (decide ((mn 1099511627776 p1.xRate) < r87)) (kr) (kn (mn 1099511627776 p1.xRate)))) (kn (mn 1099511627776 p1.xRate)))
def s_bbr_ctl_speed_4 {R : Type} (cp : Nat → Nat → Bool) (n : Nat) (q0 : ST68) (v89 : Int) (kn : (List SEntry) → Option R) : Option R :=
  cond (decide (0 < (q0.xCc_Bw.length : Int))) (cond (decide (0 ≤ wr .i64 ((q0.xCc_Bw.length : Int) - 1))) (cond (decide (wr .i64 ((q0.xCc_Bw.length : Int) - 1) < (q0.xCc_Bw.length : Int))) (cond (decide (((q0.xCc_Bw.getD (Int.toNat (wr .i64 ((q0.xCc_Bw.length : Int) - 1))) zEntry).xAt) = q0.xCc_Round)) (cond (decide (0 ≤ wr .i64 ((q0.xCc_Bw.length : Int) - 1))) (cond (decide (wr .i64 ((q0.xCc_Bw.length : Int) - 1) < (q0.xCc_Bw.length : Int))) (cond (decide (0 ≤ wr .i64 ((q0.xCc_Bw.length : Int) - 1))) (cond (decide (wr .i64 ((q0.xCc_Bw.length : Int) - 1) ≤ (q0.xCc_Bw.length : Int))) (cond (decide (wr .i64 ((q0.xCc_Bw.length : Int) - 1) = wr .i64 ((q0.xCc_Bw.length : Int) - 1))) (G_filter_Put cp n (q0.xCc_Bw.take (Int.toNat (wr .i64 ((q0.xCc_Bw.length : Int) - 1)))) q0.xCc_Round (mx v89 ((q0.xCc_Bw.getD (Int.toNat (wr .i64 ((q0.xCc_Bw.length : Int) - 1))) zEntry).xV)) 10 true (fun r90 r91 => kn r90)) (none)) (none)) (none)) (none)) (none)) (G_filter_Put cp n q0.xCc_Bw q0.xCc_Round v89 10 true (fun r92 r93 => kn r92))) (none)) (none)) (G_filter_Put cp n q0.xCc_Bw q0.xCc_Round v89 10 true (fun r94 r95 => kn r94))
def s_bbr_ctl_speed_7 {R : Type} (cp : Nat → Nat → Bool) (n : Nat) (p1 : SSample) (q0 : ST68) (kn : (List SEntry) → Option R) (kr : Option R) : Option R :=
  s_bbr_ctl_speed_1 cp n p1 q0 (fun v89 => s_bbr_ctl_speed_4 cp n q0 v89 (fun v96 => (kn v96))) kr
def G_bbr_ctl_speed {R : Type} (cp : Nat → Nat → Bool) : Nat → SSample → ST68 → (ST68 → Option R) → Option R
  | 0, _, _, _ => none
  | n + 1, p1, q0, k =>
    s_bbr_ctl_speed_7 cp n p1 q0 (fun v97 => k (ST68.mk q0.xCc_Kind q0.xCc_Mss q0.xCc_Cwnd q0.xCc_Ssthresh q0.xCc_Acc q0.xCc_Wmax q0.xCc_Epoch q0.xCc_K q0.xCc_West q0.xCc_Start q0.xCc_Mode v97 q0.xCc_MinRtt q0.xCc_MinAt q0.xCc_Round q0.xCc_NextAt q0.xCc_Full q0.xCc_FullN q0.xCc_Phase q0.xCc_PhaseAt q0.xCc_DoneAt q0.xCc_Prior)) (k q0)
/-! (*tideway/bbr.ctl).shortest -/
def G_bbr_ctl_shortest {R : Type} (cp : Nat → Nat → Bool) : Nat → SSample → ST68 → (Bool → ST68 → Option R) → Option R
  | 0, _, _, _ => none
  | n + 1, p1, q0, k =>
    cond (decide (0 < q0.xCc_MinRtt)) (cond (decide (0 < p1.xRtt)) (cond (decide (10000000 < (wr .i64 (p1.xNow - q0.xCc_MinAt)))) (k (decide (10000000 < (wr .i64 (p1.xNow - q0.xCc_MinAt)))) (ST68.mk q0.xCc_Kind q0.xCc_Mss q0.xCc_Cwnd q0.xCc_Ssthresh q0.xCc_Acc q0.xCc_Wmax q0.xCc_Epoch q0.xCc_K q0.xCc_West q0.xCc_Start q0.xCc_Mode q0.xCc_Bw p1.xRtt p1.xNow q0.xCc_Round q0.xCc_NextAt q0.xCc_Full q0.xCc_FullN q0.xCc_Phase q0.xCc_PhaseAt q0.xCc_DoneAt q0.xCc_Prior)) (cond (decide (q0.xCc_MinRtt = 0)) (k (decide (10000000 < (wr .i64 (p1.xNow - q0.xCc_MinAt)))) (ST68.mk q0.xCc_Kind q0.xCc_Mss q0.xCc_Cwnd q0.xCc_Ssthresh q0.xCc_Acc q0.xCc_Wmax q0.xCc_Epoch q0.xCc_K q0.xCc_West q0.xCc_Start q0.xCc_Mode q0.xCc_Bw p1.xRtt p1.xNow q0.xCc_Round q0.xCc_NextAt q0.xCc_Full q0.xCc_FullN q0.xCc_Phase q0.xCc_PhaseAt q0.xCc_DoneAt q0.xCc_Prior)) (cond (decide (p1.xRtt ≤ q0.xCc_MinRtt)) (k (decide (10000000 < (wr .i64 (p1.xNow - q0.xCc_MinAt)))) (ST68.mk q0.xCc_Kind q0.xCc_Mss q0.xCc_Cwnd q0.xCc_Ssthresh q0.xCc_Acc q0.xCc_Wmax q0.xCc_Epoch q0.xCc_K q0.xCc_West q0.xCc_Start q0.xCc_Mode q0.xCc_Bw p1.xRtt p1.xNow q0.xCc_Round q0.xCc_NextAt q0.xCc_Full q0.xCc_FullN q0.xCc_Phase q0.xCc_PhaseAt q0.xCc_DoneAt q0.xCc_Prior)) (k (decide (10000000 < (wr .i64 (p1.xNow - q0.xCc_MinAt)))) q0)))) (k (decide (10000000 < (wr .i64 (p1.xNow - q0.xCc_MinAt)))) q0)) (cond (decide (0 < p1.xRtt)) (cond (decide (q0.xCc_MinRtt = 0)) (k false (ST68.mk q0.xCc_Kind q0.xCc_Mss q0.xCc_Cwnd q0.xCc_Ssthresh q0.xCc_Acc q0.xCc_Wmax q0.xCc_Epoch q0.xCc_K q0.xCc_West q0.xCc_Start q0.xCc_Mode q0.xCc_Bw p1.xRtt p1.xNow q0.xCc_Round q0.xCc_NextAt q0.xCc_Full q0.xCc_FullN q0.xCc_Phase q0.xCc_PhaseAt q0.xCc_DoneAt q0.xCc_Prior)) (cond (decide (p1.xRtt ≤ q0.xCc_MinRtt)) (k false (ST68.mk q0.xCc_Kind q0.xCc_Mss q0.xCc_Cwnd q0.xCc_Ssthresh q0.xCc_Acc q0.xCc_Wmax q0.xCc_Epoch q0.xCc_K q0.xCc_West q0.xCc_Start q0.xCc_Mode q0.xCc_Bw p1.xRtt p1.xNow q0.xCc_Round q0.xCc_NextAt q0.xCc_Full q0.xCc_FullN q0.xCc_Phase q0.xCc_PhaseAt q0.xCc_DoneAt q0.xCc_Prior)) (k false q0))) (k false q0))
/-! (*tideway/bbr.ctl).full -/
def G_bbr_ctl_full {R : Type} (cp : Nat → Nat → Bool) : Nat → ST68 → (ST68 → Option R) → Option R
  | 0, _, _ => none
  | n + 1, q0, k =>
    G_bbr_ctl_bandwidth cp n q0 (fun r98 r99 => cond (decide (r98 = 0)) (k q0) (cond (decide ((wr .i64 (5 * q0.xCc_Full)) ≤ (wr .i64 (4 * r98)))) (k (ST68.mk q0.xCc_Kind q0.xCc_Mss q0.xCc_Cwnd q0.xCc_Ssthresh q0.xCc_Acc q0.xCc_Wmax q0.xCc_Epoch q0.xCc_K q0.xCc_West q0.xCc_Start q0.xCc_Mode q0.xCc_Bw q0.xCc_MinRtt q0.xCc_MinAt q0.xCc_Round q0.xCc_NextAt r98 0 q0.xCc_Phase q0.xCc_PhaseAt q0.xCc_DoneAt q0.xCc_Prior)) (cond (decide ((mn 3 (wr .i64 (q0.xCc_FullN + 1))) = 3)) (k (ST68.mk q0.xCc_Kind q0.xCc_Mss q0.xCc_Cwnd q0.xCc_Ssthresh q0.xCc_Acc q0.xCc_Wmax q0.xCc_Epoch q0.xCc_K q0.xCc_West q0.xCc_Start 2 q0.xCc_Bw q0.xCc_MinRtt q0.xCc_MinAt q0.xCc_Round q0.xCc_NextAt q0.xCc_Full (mn 3 (wr .i64 (q0.xCc_FullN + 1))) q0.xCc_Phase q0.xCc_PhaseAt q0.xCc_DoneAt q0.xCc_Prior)) (k (ST68.mk q0.xCc_Kind q0.xCc_Mss q0.xCc_Cwnd q0.xCc_Ssthresh q0.xCc_Acc q0.xCc_Wmax q0.xCc_Epoch q0.xCc_K q0.xCc_West q0.xCc_Start q0.xCc_Mode q0.xCc_Bw q0.xCc_MinRtt q0.xCc_MinAt q0.xCc_Round q0.xCc_NextAt q0.xCc_Full (mn 3 (wr .i64 (q0.xCc_FullN + 1))) q0.xCc_Phase q0.xCc_PhaseAt q0.xCc_DoneAt q0.xCc_Prior)))))
/-! (*tideway/bbr.ctl).product -/
def G_bbr_ctl_product {R : Type} (cp : Nat → Nat → Bool) : Nat → ST68 → (Int → ST68 → Option R) → Option R
  | 0, _, _ => none
  | n + 1, q0, k =>
    G_bbr_ctl_bandwidth cp n q0 (fun r101 r102 => G_seq_MulDiv cp n r101 q0.xCc_MinRtt 1000000 (fun r103 r104 => k (mn 1073741824 r103) q0))
/-! (*tideway/bbr.ctl).probe -/
def G_bbr_ctl_probe {R : Type} (cp : Nat → Nat → Bool) : Nat → Int → ST68 → (ST68 → Option R) → Option R
  | 0, _, _, _ => none
  | n + 1, p1, q0, k =>
    k (ST68.mk q0.xCc_Kind q0.xCc_Mss q0.xCc_Cwnd q0.xCc_Ssthresh q0.xCc_Acc q0.xCc_Wmax q0.xCc_Epoch q0.xCc_K q0.xCc_West q0.xCc_Start 3 q0.xCc_Bw q0.xCc_MinRtt q0.xCc_MinAt q0.xCc_Round q0.xCc_NextAt q0.xCc_Full q0.xCc_FullN 2 p1 q0.xCc_DoneAt q0.xCc_Prior)
/-! (*tideway/bbr.ctl).cycle -/
def G_bbr_ctl_cycle {R : Type} (cp : Nat → Nat → Bool) : Nat → SSample → ST68 → (ST68 → Option R) → Option R
  | 0, _, _, _ => none
  | n + 1, p1, q0, k =>
    cond (decide (q0.xCc_Mode = 2)) (G_bbr_ctl_product cp n q0 (fun r105 r106 => cond (decide (p1.xFlight ≤ r105)) (G_bbr_ctl_probe cp n p1.xNow q0 (fun r107 => k r107)) (cond (decide (q0.xCc_Mode = 3)) (cond (decide (q0.xCc_MinRtt < (wr .i64 (p1.xNow - q0.xCc_PhaseAt)))) (k (ST68.mk q0.xCc_Kind q0.xCc_Mss q0.xCc_Cwnd q0.xCc_Ssthresh q0.xCc_Acc q0.xCc_Wmax q0.xCc_Epoch q0.xCc_K q0.xCc_West q0.xCc_Start q0.xCc_Mode q0.xCc_Bw q0.xCc_MinRtt q0.xCc_MinAt q0.xCc_Round q0.xCc_NextAt q0.xCc_Full q0.xCc_FullN (Int.tmod (wr .i64 (q0.xCc_Phase + 1)) 8) p1.xNow q0.xCc_DoneAt q0.xCc_Prior)) (k q0)) (k q0)))) (cond (decide (q0.xCc_Mode = 3)) (cond (decide (q0.xCc_MinRtt < (wr .i64 (p1.xNow - q0.xCc_PhaseAt)))) (k (ST68.mk q0.xCc_Kind q0.xCc_Mss q0.xCc_Cwnd q0.xCc_Ssthresh q0.xCc_Acc q0.xCc_Wmax q0.xCc_Epoch q0.xCc_K q0.xCc_West q0.xCc_Start q0.xCc_Mode q0.xCc_Bw q0.xCc_MinRtt q0.xCc_MinAt q0.xCc_Round q0.xCc_NextAt q0.xCc_Full q0.xCc_FullN (Int.tmod (wr .i64 (q0.xCc_Phase + 1)) 8) p1.xNow q0.xCc_DoneAt q0.xCc_Prior)) (k q0)) (k q0))
/-! (*tideway/bbr.ctl).ask -/
def s_bbr_ctl_ask_1 {R : Type} (cp : Nat → Nat → Bool) (n : Nat) (p1 : SSample) (p2 : Bool) (q0 : ST68) (kn : Option R) : Option R :=
  kn
def s_bbr_ctl_ask_3 {R : Type} (cp : Nat → Nat → Bool) (n : Nat) (p1 : SSample) (p2 : Bool) (q0 : ST68) (kn : Bool → Option R) : Option R :=
  cond (p2) (kn (!decide (q0.xCc_Mode = 4))) (kn false)
def s_bbr_ctl_ask_5 {R : Type} (cp : Nat → Nat → Bool) (n : Nat) (p1 : SSample) (q0 : ST68) (v109 : Bool) (kn : SCc → Option R) : Option R :=
  cond (v109) (kn (SCc.mk q0.xCc_Kind q0.xCc_Mss q0.xCc_Cwnd q0.xCc_Ssthresh q0.xCc_Acc q0.xCc_Wmax q0.xCc_Epoch q0.xCc_K q0.xCc_West q0.xCc_Start 4 q0.xCc_Bw q0.xCc_MinRtt q0.xCc_MinAt q0.xCc_Round q0.xCc_NextAt q0.xCc_Full q0.xCc_FullN q0.xCc_Phase q0.xCc_PhaseAt 0 q0.xCc_Cwnd)) (cond (!decide (q0.xCc_Mode = 4)) (kn (SCc.mk q0.xCc_Kind q0.xCc_Mss q0.xCc_Cwnd q0.xCc_Ssthresh q0.xCc_Acc q0.xCc_Wmax q0.xCc_Epoch q0.xCc_K q0.xCc_West q0.xCc_Start q0.xCc_Mode q0.xCc_Bw q0.xCc_MinRtt q0.xCc_MinAt q0.xCc_Round q0.xCc_NextAt q0.xCc_Full q0.xCc_FullN q0.xCc_Phase q0.xCc_PhaseAt q0.xCc_DoneAt q0.xCc_Prior)) (cond (decide (q0.xCc_DoneAt = 0)) (cond (decide (p1.xFlight ≤ (wr .i64 (4 * q0.xCc_Mss)))) (kn (SCc.mk q0.xCc_Kind q0.xCc_Mss q0.xCc_Cwnd q0.xCc_Ssthresh q0.xCc_Acc q0.xCc_Wmax q0.xCc_Epoch q0.xCc_K q0.xCc_West q0.xCc_Start q0.xCc_Mode q0.xCc_Bw q0.xCc_MinRtt q0.xCc_MinAt q0.xCc_Round q0.xCc_NextAt q0.xCc_Full q0.xCc_FullN q0.xCc_Phase q0.xCc_PhaseAt (mn 1125899906842624 (wr .i64 (p1.xNow + 200000))) q0.xCc_Prior)) (cond (decide (0 < q0.xCc_DoneAt)) (cond (decide (q0.xCc_DoneAt ≤ p1.xNow)) (cond (decide (q0.xCc_FullN = 3)) (G_bbr_ctl_probe cp n p1.xNow (ST68.mk q0.xCc_Kind q0.xCc_Mss (mx q0.xCc_Cwnd q0.xCc_Prior) q0.xCc_Ssthresh q0.xCc_Acc q0.xCc_Wmax q0.xCc_Epoch q0.xCc_K q0.xCc_West q0.xCc_Start q0.xCc_Mode q0.xCc_Bw q0.xCc_MinRtt p1.xNow q0.xCc_Round q0.xCc_NextAt q0.xCc_Full q0.xCc_FullN q0.xCc_Phase q0.xCc_PhaseAt 0 q0.xCc_Prior) (fun r110 => kn (SCc.mk r110.xCc_Kind r110.xCc_Mss r110.xCc_Cwnd r110.xCc_Ssthresh r110.xCc_Acc r110.xCc_Wmax r110.xCc_Epoch r110.xCc_K r110.xCc_West r110.xCc_Start r110.xCc_Mode r110.xCc_Bw r110.xCc_MinRtt r110.xCc_MinAt r110.xCc_Round r110.xCc_NextAt r110.xCc_Full r110.xCc_FullN r110.xCc_Phase r110.xCc_PhaseAt r110.xCc_DoneAt r110.xCc_Prior))) (kn (SCc.mk q0.xCc_Kind q0.xCc_Mss (mx q0.xCc_Cwnd q0.xCc_Prior) q0.xCc_Ssthresh q0.xCc_Acc q0.xCc_Wmax q0.xCc_Epoch q0.xCc_K q0.xCc_West q0.xCc_Start 1 q0.xCc_Bw q0.xCc_MinRtt p1.xNow q0.xCc_Round q0.xCc_NextAt q0.xCc_Full q0.xCc_FullN q0.xCc_Phase q0.xCc_PhaseAt 0 q0.xCc_Prior))) (kn (SCc.mk q0.xCc_Kind q0.xCc_Mss q0.xCc_Cwnd q0.xCc_Ssthresh q0.xCc_Acc q0.xCc_Wmax q0.xCc_Epoch q0.xCc_K q0.xCc_West q0.xCc_Start q0.xCc_Mode q0.xCc_Bw q0.xCc_MinRtt q0.xCc_MinAt q0.xCc_Round q0.xCc_NextAt q0.xCc_Full q0.xCc_FullN q0.xCc_Phase q0.xCc_PhaseAt q0.xCc_DoneAt q0.xCc_Prior))) (kn (SCc.mk q0.xCc_Kind q0.xCc_Mss q0.xCc_Cwnd q0.xCc_Ssthresh q0.xCc_Acc q0.xCc_Wmax q0.xCc_Epoch q0.xCc_K q0.xCc_West q0.xCc_Start q0.xCc_Mode q0.xCc_Bw q0.xCc_MinRtt q0.xCc_MinAt q0.xCc_Round q0.xCc_NextAt q0.xCc_Full q0.xCc_FullN q0.xCc_Phase q0.xCc_PhaseAt q0.xCc_DoneAt q0.xCc_Prior)))) (cond (decide (0 < q0.xCc_DoneAt)) (cond (decide (q0.xCc_DoneAt ≤ p1.xNow)) (cond (decide (q0.xCc_FullN = 3)) (G_bbr_ctl_probe cp n p1.xNow (ST68.mk q0.xCc_Kind q0.xCc_Mss (mx q0.xCc_Cwnd q0.xCc_Prior) q0.xCc_Ssthresh q0.xCc_Acc q0.xCc_Wmax q0.xCc_Epoch q0.xCc_K q0.xCc_West q0.xCc_Start q0.xCc_Mode q0.xCc_Bw q0.xCc_MinRtt p1.xNow q0.xCc_Round q0.xCc_NextAt q0.xCc_Full q0.xCc_FullN q0.xCc_Phase q0.xCc_PhaseAt 0 q0.xCc_Prior) (fun r111 => kn (SCc.mk r111.xCc_Kind r111.xCc_Mss r111.xCc_Cwnd r111.xCc_Ssthresh r111.xCc_Acc r111.xCc_Wmax r111.xCc_Epoch r111.xCc_K r111.xCc_West r111.xCc_Start r111.xCc_Mode r111.xCc_Bw r111.xCc_MinRtt r111.xCc_MinAt r111.xCc_Round r111.xCc_NextAt r111.xCc_Full r111.xCc_FullN r111.xCc_Phase r111.xCc_PhaseAt r111.xCc_DoneAt r111.xCc_Prior))) (kn (SCc.mk q0.xCc_Kind q0.xCc_Mss (mx q0.xCc_Cwnd q0.xCc_Prior) q0.xCc_Ssthresh q0.xCc_Acc q0.xCc_Wmax q0.xCc_Epoch q0.xCc_K q0.xCc_West q0.xCc_Start 1 q0.xCc_Bw q0.xCc_MinRtt p1.xNow q0.xCc_Round q0.xCc_NextAt q0.xCc_Full q0.xCc_FullN q0.xCc_Phase q0.xCc_PhaseAt 0 q0.xCc_Prior))) (kn (SCc.mk q0.xCc_Kind q0.xCc_Mss q0.xCc_Cwnd q0.xCc_Ssthresh q0.xCc_Acc q0.xCc_Wmax q0.xCc_Epoch q0.xCc_K q0.xCc_West q0.xCc_Start q0.xCc_Mode q0.xCc_Bw q0.xCc_MinRtt q0.xCc_MinAt q0.xCc_Round q0.xCc_NextAt q0.xCc_Full q0.xCc_FullN q0.xCc_Phase q0.xCc_PhaseAt q0.xCc_DoneAt q0.xCc_Prior))) (kn (SCc.mk q0.xCc_Kind q0.xCc_Mss q0.xCc_Cwnd q0.xCc_Ssthresh q0.xCc_Acc q0.xCc_Wmax q0.xCc_Epoch q0.xCc_K q0.xCc_West q0.xCc_Start q0.xCc_Mode q0.xCc_Bw q0.xCc_MinRtt q0.xCc_MinAt q0.xCc_Round q0.xCc_NextAt q0.xCc_Full q0.xCc_FullN q0.xCc_Phase q0.xCc_PhaseAt q0.xCc_DoneAt q0.xCc_Prior)))))
def s_bbr_ctl_ask_8 {R : Type} (cp : Nat → Nat → Bool) (n : Nat) (p1 : SSample) (p2 : Bool) (q0 : ST68) (kn : SCc → Option R) : Option R :=
  s_bbr_ctl_ask_3 cp n p1 p2 q0 (fun v109 => s_bbr_ctl_ask_5 cp n p1 q0 v109 (fun v112 => (kn v112)))
def s_bbr_ctl_ask_10 {R : Type} (cp : Nat → Nat → Bool) (n : Nat) (p1 : SSample) (p2 : Bool) (q0 : ST68) (kn : SCc → Option R) : Option R :=
  s_bbr_ctl_ask_8 cp n p1 p2 q0 (fun v113 => (kn v113))
def s_bbr_ctl_ask_12 {R : Type} (cp : Nat → Nat → Bool) (n : Nat) (p1 : SSample) (p2 : Bool) (q0 : ST68) (kn : SCc → Option R) : Option R :=
  s_bbr_ctl_ask_1 cp n p1 p2 q0 (s_bbr_ctl_ask_10 cp n p1 p2 q0 (fun v114 => (kn v114)))
def G_bbr_ctl_ask {R : Type} (cp : Nat → Nat → Bool) : Nat → SSample → Bool → ST68 → (ST68 → Option R) → Option R
  | 0, _, _, _, _ => none
  | n + 1, p1, p2, q0, k =>
    s_bbr_ctl_ask_12 cp n p1 p2 q0 (fun v115 => k (ST68.mk v115.xKind v115.xMss v115.xCwnd v115.xSsthresh v115.xAcc v115.xWmax v115.xEpoch v115.xK v115.xWest v115.xStart v115.xMode v115.xBw v115.xMinRtt v115.xMinAt v115.xRound v115.xNextAt v115.xFull v115.xFullN v115.xPhase v115.xPhaseAt v115.xDoneAt v115.xPrior))
/-! tideway/seq.Clamp -/
def G_seq_Clamp {R : Type} (cp : Nat → Nat → Bool) : Nat → Int → Int → Int → (Int → Option R) → Option R
  | 0, _, _, _, _ => none
  | n + 1, p0, p1, p2, k =>
    k (mx p1 (mn p0 p2))
/-! (*tideway/bbr.ctl).window -/
def s_bbr_ctl_window_1 {R : Type} (cp : Nat → Nat → Bool) (n : Nat) (p1 : SSample) (q0 : ST68) (kn : Int → Option R) : Option R :=
  G_bbr_ctl_product cp n q0 (fun r109 r110 => kn (mx (wr .i64 (2 * r109)) (wr .i64 (4 * q0.xCc_Mss))))
def s_bbr_ctl_window_3 {R : Type} (cp : Nat → Nat → Bool) (n : Nat) (p1 : SSample) (q0 : ST68) (v111 : Int) (kn : Int → Option R) : Option R :=
  cond (decide (q0.xCc_Mode = 4)) (kn (mn q0.xCc_Cwnd (wr .i64 (4 * q0.xCc_Mss)))) (cond (decide (q0.xCc_FullN = 3)) (kn (mn v111 (wr .i64 (q0.xCc_Cwnd + p1.xAcked)))) (cond (decide (q0.xCc_Cwnd < v111)) (kn (wr .i64 (q0.xCc_Cwnd + p1.xAcked))) (G_bbr_ctl_bandwidth cp n q0 (fun r112 r113 => cond (decide (r112 = 0)) (kn (wr .i64 (q0.xCc_Cwnd + p1.xAcked))) (kn q0.xCc_Cwnd)))))
def s_bbr_ctl_window_5 {R : Type} (cp : Nat → Nat → Bool) (n : Nat) (q0 : ST68) (v114 : Int) (kn : Int → Option R) : Option R :=
  G_seq_Clamp cp n v114 q0.xCc_Mss 1073741824 (fun r115 => kn r115)
def s_bbr_ctl_window_8 {R : Type} (cp : Nat → Nat → Bool) (n : Nat) (p1 : SSample) (q0 : ST68) (v111 : Int) (kn : Int → Option R) : Option R :=
  s_bbr_ctl_window_3 cp n p1 q0 v111 (fun v114 => s_bbr_ctl_window_5 cp n q0 v114 (fun v116 => (kn v116)))
def s_bbr_ctl_window_10 {R : Type} (cp : Nat → Nat → Bool) (n : Nat) (p1 : SSample) (q0 : ST68) (kn : Int → Option R) : Option R :=
  s_bbr_ctl_window_1 cp n p1 q0 (fun v111 => s_bbr_ctl_window_8 cp n p1 q0 v111 (fun v117 => (kn v117)))
def G_bbr_ctl_window {R : Type} (cp : Nat → Nat → Bool) : Nat → SSample → ST68 → (ST68 → Option R) → Option R
  | 0, _, _, _ => none
  | n + 1, p1, q0, k =>
    s_bbr_ctl_window_10 cp n p1 q0 (fun v118 => k (ST68.mk q0.xCc_Kind q0.xCc_Mss v118 q0.xCc_Ssthresh q0.xCc_Acc q0.xCc_Wmax q0.xCc_Epoch q0.xCc_K q0.xCc_West q0.xCc_Start q0.xCc_Mode q0.xCc_Bw q0.xCc_MinRtt q0.xCc_MinAt q0.xCc_Round q0.xCc_NextAt q0.xCc_Full q0.xCc_FullN q0.xCc_Phase q0.xCc_PhaseAt q0.xCc_DoneAt q0.xCc_Prior))
/-! tideway/bbr.Acked -/
def s_bbr_Acked_1 {R : Type} (cp : Nat → Nat → Bool) (n : Nat) (p0 : SCc) (p1 : SSample) (kn : Bool → SCc → Option R) (kr : Int → Option R) : Option R :=
  G_bbr_Check cp n p0 (fun r141 => cond (!decide (r141 = 0)) (kr r141) (G_bbr_within cp n 1125899906842624 [p1.xNow, p1.xGiven, p1.xBefore, p1.xRtt] (fun r142 => cond (!r142) (kr 2) (G_bbr_within cp n 1073741824 [p1.xAcked, p1.xFlight] (fun r143 => cond (!r143) (kr 2) (cond (decide (p1.xRate < 0)) (kr 2) (G_bbr_ctl_round cp n p1 (ST68.mk p0.xKind p0.xMss p0.xCwnd p0.xSsthresh p0.xAcc p0.xWmax p0.xEpoch p0.xK p0.xWest p0.xStart p0.xMode p0.xBw p0.xMinRtt p0.xMinAt p0.xRound p0.xNextAt p0.xFull p0.xFullN p0.xPhase p0.xPhaseAt p0.xDoneAt p0.xPrior) (fun r144 r145 => kn r144 (SCc.mk r145.xCc_Kind r145.xCc_Mss r145.xCc_Cwnd r145.xCc_Ssthresh r145.xCc_Acc r145.xCc_Wmax r145.xCc_Epoch r145.xCc_K r145.xCc_West r145.xCc_Start r145.xCc_Mode r145.xCc_Bw r145.xCc_MinRtt r145.xCc_MinAt r145.xCc_Round r145.xCc_NextAt r145.xCc_Full r145.xCc_FullN r145.xCc_Phase r145.xCc_PhaseAt r145.xCc_DoneAt r145.xCc_Prior)))))))))
def s_bbr_Acked_4 {R : Type} (cp : Nat → Nat → Bool) (n : Nat) (p1 : SSample) (v146 : Bool) (v147 : SCc) (kn : Bool → SCc → Option R) : Option R :=
  G_bbr_ctl_speed cp n p1 (ST68.mk v147.xKind v147.xMss v147.xCwnd v147.xSsthresh v147.xAcc v147.xWmax v147.xEpoch v147.xK v147.xWest v147.xStart v147.xMode v147.xBw v147.xMinRtt v147.xMinAt v147.xRound v147.xNextAt v147.xFull v147.xFullN v147.xPhase v147.xPhaseAt v147.xDoneAt v147.xPrior) (fun r153 => G_bbr_ctl_shortest cp n p1 r153 (fun r154 r155 => cond (v146) (cond (decide (r155.xCc_Mode = 1)) (cond (!p1.xIdle) (G_bbr_ctl_full cp n r155 (fun r156 => kn r154 (SCc.mk r156.xCc_Kind r156.xCc_Mss r156.xCc_Cwnd r156.xCc_Ssthresh r156.xCc_Acc r156.xCc_Wmax r156.xCc_Epoch r156.xCc_K r156.xCc_West r156.xCc_Start r156.xCc_Mode r156.xCc_Bw r156.xCc_MinRtt r156.xCc_MinAt r156.xCc_Round r156.xCc_NextAt r156.xCc_Full r156.xCc_FullN r156.xCc_Phase r156.xCc_PhaseAt r156.xCc_DoneAt r156.xCc_Prior))) (kn r154 (SCc.mk r155.xCc_Kind r155.xCc_Mss r155.xCc_Cwnd r155.xCc_Ssthresh r155.xCc_Acc r155.xCc_Wmax r155.xCc_Epoch r155.xCc_K r155.xCc_West r155.xCc_Start r155.xCc_Mode r155.xCc_Bw r155.xCc_MinRtt r155.xCc_MinAt r155.xCc_Round r155.xCc_NextAt r155.xCc_Full r155.xCc_FullN r155.xCc_Phase r155.xCc_PhaseAt r155.xCc_DoneAt r155.xCc_Prior))) (kn r154 (SCc.mk r155.xCc_Kind r155.xCc_Mss r155.xCc_Cwnd r155.xCc_Ssthresh r155.xCc_Acc r155.xCc_Wmax r155.xCc_Epoch r155.xCc_K r155.xCc_West r155.xCc_Start r155.xCc_Mode r155.xCc_Bw r155.xCc_MinRtt r155.xCc_MinAt r155.xCc_Round r155.xCc_NextAt r155.xCc_Full r155.xCc_FullN r155.xCc_Phase r155.xCc_PhaseAt r155.xCc_DoneAt r155.xCc_Prior))) (kn r154 (SCc.mk r155.xCc_Kind r155.xCc_Mss r155.xCc_Cwnd r155.xCc_Ssthresh r155.xCc_Acc r155.xCc_Wmax r155.xCc_Epoch r155.xCc_K r155.xCc_West r155.xCc_Start r155.xCc_Mode r155.xCc_Bw r155.xCc_MinRtt r155.xCc_MinAt r155.xCc_Round r155.xCc_NextAt r155.xCc_Full r155.xCc_FullN r155.xCc_Phase r155.xCc_PhaseAt r155.xCc_DoneAt r155.xCc_Prior))))
def s_bbr_Acked_6 {R : Type} (cp : Nat → Nat → Bool) (n : Nat) (p1 : SSample) (v157 : Bool) (v158 : SCc) (kr : SCc → Option R) : Option R :=
  G_bbr_ctl_cycle cp n p1 (ST68.mk v158.xKind v158.xMss v158.xCwnd v158.xSsthresh v158.xAcc v158.xWmax v158.xEpoch v158.xK v158.xWest v158.xStart v158.xMode v158.xBw v158.xMinRtt v158.xMinAt v158.xRound v158.xNextAt v158.xFull v158.xFullN v158.xPhase v158.xPhaseAt v158.xDoneAt v158.xPrior) (fun r159 => G_bbr_ctl_ask cp n p1 v157 r159 (fun r160 => G_bbr_ctl_window cp n p1 r160 (fun r161 => kr (SCc.mk r161.xCc_Kind r161.xCc_Mss r161.xCc_Cwnd r161.xCc_Ssthresh r161.xCc_Acc r161.xCc_Wmax r161.xCc_Epoch r161.xCc_K r161.xCc_West r161.xCc_Start r161.xCc_Mode r161.xCc_Bw r161.xCc_MinRtt r161.xCc_MinAt r161.xCc_Round r161.xCc_NextAt r161.xCc_Full r161.xCc_FullN r161.xCc_Phase r161.xCc_PhaseAt r161.xCc_DoneAt r161.xCc_Prior))))
def s_bbr_Acked_9 {R : Type} (cp : Nat → Nat → Bool) (n : Nat) (p1 : SSample) (v146 : Bool) (v147 : SCc) (kr : SCc → Option R) : Option R :=
  s_bbr_Acked_4 cp n p1 v146 v147 (fun v157 v158 => s_bbr_Acked_6 cp n p1 v157 v158 (fun v162 => (kr v162)))
def s_bbr_Acked_11 {R : Type} (cp : Nat → Nat → Bool) (n : Nat) (p0 : SCc) (p1 : SSample) (kr : Int → SCc → Option R) : Option R :=
  s_bbr_Acked_1 cp n p0 p1 (fun v146 v147 => s_bbr_Acked_9 cp n p1 v146 v147 (fun v163 => (kr 0 v163))) (fun v148 => (kr v148 (SCc.mk 0 0 0 0 0 0 0 0 0 0 0 [] 0 0 0 0 0 0 0 0 0 0)))
def G_bbr_Acked {R : Type} (cp : Nat → Nat → Bool) : Nat → SCc → SSample → (SCc → Int → Option R) → Option R
  | 0, _, _, _ => none
  | n + 1, p0, p1, k =>
    s_bbr_Acked_11 cp n p0 p1 (fun v164 v165 => k v165 v164)
/-! (*tideway/reno.ctl).rise -/
def G_reno_ctl_rise {R : Type} (cp : Nat → Nat → Bool) : Nat → Int → Sctl → (Sctl → Option R) → Option R
  | 0, _, _, _ => none
  | n + 1, p1, q0, k =>
    k (Sctl.mk q0.xCc_Kind q0.xCc_Mss (mn 1073741824 (wr .i64 (q0.xCc_Cwnd + p1))) q0.xCc_Ssthresh q0.xCc_Acc q0.xCc_Wmax q0.xCc_Epoch q0.xCc_K q0.xCc_West q0.xCc_Start q0.xCc_Mode q0.xCc_Bw q0.xCc_MinRtt q0.xCc_MinAt q0.xCc_Round q0.xCc_NextAt q0.xCc_Full q0.xCc_FullN q0.xCc_Phase q0.xCc_PhaseAt q0.xCc_DoneAt q0.xCc_Prior)
/-! tideway/reno.Acked -/
def G_reno_Acked {R : Type} (cp : Nat → Nat → Bool) : Nat → SCc → Int → Bool → (SCc → Int → Option R) → Option R
  | 0, _, _, _, _ => none
  | n + 1, p0, p1, p2, k =>
    G_reno_begun cp n p0 p1 (fun r88 r89 => cond (!decide (r88 = 0)) (k (SCc.mk r89.xCc_Kind r89.xCc_Mss r89.xCc_Cwnd r89.xCc_Ssthresh r89.xCc_Acc r89.xCc_Wmax r89.xCc_Epoch r89.xCc_K r89.xCc_West r89.xCc_Start r89.xCc_Mode r89.xCc_Bw r89.xCc_MinRtt r89.xCc_MinAt r89.xCc_Round r89.xCc_NextAt r89.xCc_Full r89.xCc_FullN r89.xCc_Phase r89.xCc_PhaseAt r89.xCc_DoneAt r89.xCc_Prior) r88) (cond (p2) (k (SCc.mk r89.xCc_Kind r89.xCc_Mss r89.xCc_Cwnd r89.xCc_Ssthresh r89.xCc_Acc r89.xCc_Wmax r89.xCc_Epoch r89.xCc_K r89.xCc_West r89.xCc_Start r89.xCc_Mode r89.xCc_Bw r89.xCc_MinRtt r89.xCc_MinAt r89.xCc_Round r89.xCc_NextAt r89.xCc_Full r89.xCc_FullN r89.xCc_Phase r89.xCc_PhaseAt r89.xCc_DoneAt r89.xCc_Prior) r88) (cond (decide (r89.xCc_Cwnd < r89.xCc_Ssthresh)) (G_reno_ctl_rise cp n (mn p1 r89.xCc_Mss) r89 (fun r90 => k (SCc.mk r90.xCc_Kind r90.xCc_Mss r90.xCc_Cwnd r90.xCc_Ssthresh r90.xCc_Acc r90.xCc_Wmax r90.xCc_Epoch r90.xCc_K r90.xCc_West r90.xCc_Start r90.xCc_Mode r90.xCc_Bw r90.xCc_MinRtt r90.xCc_MinAt r90.xCc_Round r90.xCc_NextAt r90.xCc_Full r90.xCc_FullN r90.xCc_Phase r90.xCc_PhaseAt r90.xCc_DoneAt r90.xCc_Prior) r88)) (cond (decide (r89.xCc_Cwnd ≤ (mn 1073741824 (wr .i64 (r89.xCc_Acc + p1))))) (G_reno_ctl_rise cp n r89.xCc_Mss (Sctl.mk r89.xCc_Kind r89.xCc_Mss r89.xCc_Cwnd r89.xCc_Ssthresh (wr .i64 ((mn 1073741824 (wr .i64 (r89.xCc_Acc + p1))) - r89.xCc_Cwnd)) r89.xCc_Wmax r89.xCc_Epoch r89.xCc_K r89.xCc_West r89.xCc_Start r89.xCc_Mode r89.xCc_Bw r89.xCc_MinRtt r89.xCc_MinAt r89.xCc_Round r89.xCc_NextAt r89.xCc_Full r89.xCc_FullN r89.xCc_Phase r89.xCc_PhaseAt r89.xCc_DoneAt r89.xCc_Prior) (fun r91 => k (SCc.mk r91.xCc_Kind r91.xCc_Mss r91.xCc_Cwnd r91.xCc_Ssthresh r91.xCc_Acc r91.xCc_Wmax r91.xCc_Epoch r91.xCc_K r91.xCc_West r91.xCc_Start r91.xCc_Mode r91.xCc_Bw r91.xCc_MinRtt r91.xCc_MinAt r91.xCc_Round r91.xCc_NextAt r91.xCc_Full r91.xCc_FullN r91.xCc_Phase r91.xCc_PhaseAt r91.xCc_DoneAt r91.xCc_Prior) r88)) (k (SCc.mk r89.xCc_Kind r89.xCc_Mss r89.xCc_Cwnd r89.xCc_Ssthresh (mn 1073741824 (wr .i64 (r89.xCc_Acc + p1))) r89.xCc_Wmax r89.xCc_Epoch r89.xCc_K r89.xCc_West r89.xCc_Start r89.xCc_Mode r89.xCc_Bw r89.xCc_MinRtt r89.xCc_MinAt r89.xCc_Round r89.xCc_NextAt r89.xCc_Full r89.xCc_FullN r89.xCc_Phase r89.xCc_PhaseAt r89.xCc_DoneAt r89.xCc_Prior) r88)))))
/-! tideway/cubic.by -/
def G_cubic_by {R : Type} (cp : Nat → Nat → Bool) : Nat → Int → Int → Int → (Int → Option R) → Option R
  | 0, _, _, _, _ => none
  | n + 1, p0, p1, p2, k =>
    G_seq_MulDiv cp n p0 p1 p2 (fun r98 r99 => k r98)
/-! tideway/seq.Cbrt -/
def s_seq_Cbrt_1 {R : Type} (cp : Nat → Nat → Bool) (n : Nat) (p0 : Int) (kn : Option R) : Option R :=
  kn
def s_seq_Cbrt_3 {R : Type} (cp : Nat → Nat → Bool) (n : Nat) (p0 : Int) (kn : Option R) : Option R :=
  kn
def s_seq_Cbrt_5 {R : Type} (cp : Nat → Nat → Bool) (n : Nat) (p0 v101 v102 : Int) (kn : Int → Int → Option R) (ke0 : Option R) : Option R :=
  cond (decide (v102 < 21)) (cond (decide ((wr .i64 (20 - v102)) < 0)) (none) (cond (decide ((wr .i64 ((wr .i64 ((bits .or .i64 v101 (shl .i64 1 (wr .i64 (20 - v102)))) * (bits .or .i64 v101 (shl .i64 1 (wr .i64 (20 - v102)))))) * (bits .or .i64 v101 (shl .i64 1 (wr .i64 (20 - v102)))))) ≤ p0)) (kn (bits .or .i64 v101 (shl .i64 1 (wr .i64 (20 - v102)))) (wr .i64 (v102 + 1))) (kn v101 (wr .i64 (v102 + 1))))) (ke0)
def l_seq_Cbrt_10 {R : Type} (cp : Nat → Nat → Bool) (n : Nat) : Nat → Int → Int → Int → (Int → Option R) → Option R
  | 0, _, _, _, _ => none
  | m + 1, p0, v101, v102, ke0 =>
    s_seq_Cbrt_5 cp n p0 v101 v102 (fun v103 v104 => l_seq_Cbrt_10 cp n m p0 v103 v104 ke0) (ke0 v101)
def s_seq_Cbrt_11 {R : Type} (cp : Nat → Nat → Bool) (n : Nat) (p0 : Int) (ke0 : Int → Option R) : Option R :=
  l_seq_Cbrt_10 cp n n p0 0 0 ke0
def s_seq_Cbrt_13 {R : Type} (cp : Nat → Nat → Bool) (n : Nat) (p0 : Int) (kn : Int → Option R) : Option R :=
  s_seq_Cbrt_11 cp n p0 (fun v105 => (kn v105))
def s_seq_Cbrt_15 {R : Type} (cp : Nat → Nat → Bool) (n : Nat) (p0 : Int) (kn : Int → Option R) : Option R :=
  s_seq_Cbrt_3 cp n p0 (s_seq_Cbrt_13 cp n p0 (fun v106 => (kn v106)))
def s_seq_Cbrt_16 {R : Type} (cp : Nat → Nat → Bool) (n : Nat) (v107 : Int) (kr : Option R) : Option R :=
  kr
def s_seq_Cbrt_19 {R : Type} (cp : Nat → Nat → Bool) (n : Nat) (p0 : Int) (kr : Int → Option R) : Option R :=
  s_seq_Cbrt_15 cp n p0 (fun v107 => s_seq_Cbrt_16 cp n v107 (kr v107))
def s_seq_Cbrt_21 {R : Type} (cp : Nat → Nat → Bool) (n : Nat) (p0 : Int) (kr : Int → Option R) : Option R :=
  s_seq_Cbrt_1 cp n p0 (s_seq_Cbrt_19 cp n p0 (fun v108 => (kr v108)))
def G_seq_Cbrt {R : Type} (cp : Nat → Nat → Bool) : Nat → Int → (Int → Option R) → Option R
  | 0, _, _ => none
  | n + 1, p0, k =>
    s_seq_Cbrt_21 cp n p0 (fun v109 => k v109)
/-! (*tideway/cubic.ctl).begin -/
def G_cubic_ctl_begin {R : Type} (cp : Nat → Nat → Bool) : Nat → Int → ST85 → (ST85 → Option R) → Option R
  | 0, _, _, _ => none
  | n + 1, p1, q0, k =>
    cond (decide (q0.xCc_Cwnd < q0.xCc_Wmax)) (G_cubic_by cp n (wr .i64 (q0.xCc_Wmax - q0.xCc_Cwnd)) 10000000000 (wr .i64 (4 * q0.xCc_Mss)) (fun r100 => G_seq_Cbrt cp n r100 (fun r110 => k (ST85.mk q0.xCc_Kind q0.xCc_Mss q0.xCc_Cwnd q0.xCc_Ssthresh q0.xCc_Acc q0.xCc_Wmax p1 r110 q0.xCc_Cwnd q0.xCc_Cwnd q0.xCc_Mode q0.xCc_Bw q0.xCc_MinRtt q0.xCc_MinAt q0.xCc_Round q0.xCc_NextAt q0.xCc_Full q0.xCc_FullN q0.xCc_Phase q0.xCc_PhaseAt q0.xCc_DoneAt q0.xCc_Prior)))) (k (ST85.mk q0.xCc_Kind q0.xCc_Mss q0.xCc_Cwnd q0.xCc_Ssthresh q0.xCc_Acc q0.xCc_Cwnd p1 0 q0.xCc_Cwnd q0.xCc_Cwnd q0.xCc_Mode q0.xCc_Bw q0.xCc_MinRtt q0.xCc_MinAt q0.xCc_Round q0.xCc_NextAt q0.xCc_Full q0.xCc_FullN q0.xCc_Phase q0.xCc_PhaseAt q0.xCc_DoneAt q0.xCc_Prior))
/-! tideway/seq.Sum -/
def G_seq_Sum {R : Type} (cp : Nat → Nat → Bool) : Nat → Int → Int → (Int → Option R) → Option R
  | 0, _, _, _ => none
  | n + 1, p0, p1, k =>
    cond (decide (0 < p0)) (cond (decide (0 < p1)) (cond (decide ((wr .i64 (p0 + p1)) < 0)) (k 9223372036854775807) (cond (decide (p0 < 0)) (cond (decide (p1 < 0)) (cond (decide (0 ≤ (wr .i64 (p0 + p1)))) (k (-9223372036854775808)) (k (wr .i64 (p0 + p1)))) (k (wr .i64 (p0 + p1)))) (k (wr .i64 (p0 + p1))))) (cond (decide (p0 < 0)) (cond (decide (p1 < 0)) (cond (decide (0 ≤ (wr .i64 (p0 + p1)))) (k (-9223372036854775808)) (k (wr .i64 (p0 + p1)))) (k (wr .i64 (p0 + p1)))) (k (wr .i64 (p0 + p1))))) (cond (decide (p0 < 0)) (cond (decide (p1 < 0)) (cond (decide (0 ≤ (wr .i64 (p0 + p1)))) (k (-9223372036854775808)) (k (wr .i64 (p0 + p1)))) (k (wr .i64 (p0 + p1)))) (k (wr .i64 (p0 + p1))))
/-! tideway/cubic.Curve -/
def s_cubic_Curve_1 {R : Type} (cp : Nat → Nat → Bool) (n : Nat) (p0 : SCc) (p1 : Int) (kn : Int → Option R) (kr : Option R) : Option R :=
  G_cubic_Check cp n p0 (fun r123 => cond (!decide (r123 = 0)) (kr) (G_seq_Sum cp n p1 (wr .i64 (0 - p0.xK)) (fun r124 => G_seq_Clamp cp n r124 (-1000000) 1000000 (fun r125 => G_cubic_by cp n (wr .i64 ((wr .i64 ((mx r125 (wr .i64 (0 - r125))) * (mx r125 (wr .i64 (0 - r125))))) * (mx r125 (wr .i64 (0 - r125))))) (wr .i64 (4 * p0.xMss)) 10000000000 (fun r126 => cond (decide (r125 < 0)) (kn (wr .i64 (0 - r126))) (kn r126))))))
def s_cubic_Curve_4 {R : Type} (cp : Nat → Nat → Bool) (n : Nat) (p0 : SCc) (v127 : Int) (kr : Int → Option R) : Option R :=
  G_seq_Sum cp n p0.xWmax v127 (fun r128 => G_seq_Clamp cp n r128 0 1073741824 (fun r129 => kr r129))
def s_cubic_Curve_7 {R : Type} (cp : Nat → Nat → Bool) (n : Nat) (p0 : SCc) (p1 : Int) (kr : Int → Option R) : Option R :=
  s_cubic_Curve_1 cp n p0 p1 (fun v127 => s_cubic_Curve_4 cp n p0 v127 (fun v130 => (kr v130))) (kr 0)
def G_cubic_Curve {R : Type} (cp : Nat → Nat → Bool) : Nat → SCc → Int → (Int → Option R) → Option R
  | 0, _, _, _ => none
  | n + 1, p0, p1, k =>
    s_cubic_Curve_7 cp n p0 p1 (fun v131 => k v131)
/-! (*tideway/cubic.ctl).grow -/
def s_cubic_ctl_grow_1 {R : Type} (cp : Nat → Nat → Bool) (n : Nat) (p1 p2 p3 : Int) (q0 : ST85) (kn : Int → SCc → Option R) : Option R :=
  cond (decide (q0.xCc_Epoch < 0)) (G_cubic_ctl_begin cp n p2 q0 (fun r99 => kn (wr .i64 (Int.tdiv (wr .i64 ((mx 0 (wr .i64 (p2 - r99.xCc_Epoch))) + p3)) 1000)) (SCc.mk r99.xCc_Kind r99.xCc_Mss r99.xCc_Cwnd r99.xCc_Ssthresh r99.xCc_Acc r99.xCc_Wmax r99.xCc_Epoch r99.xCc_K r99.xCc_West r99.xCc_Start r99.xCc_Mode r99.xCc_Bw r99.xCc_MinRtt r99.xCc_MinAt r99.xCc_Round r99.xCc_NextAt r99.xCc_Full r99.xCc_FullN r99.xCc_Phase r99.xCc_PhaseAt r99.xCc_DoneAt r99.xCc_Prior))) (kn (wr .i64 (Int.tdiv (wr .i64 ((mx 0 (wr .i64 (p2 - q0.xCc_Epoch))) + p3)) 1000)) (SCc.mk q0.xCc_Kind q0.xCc_Mss q0.xCc_Cwnd q0.xCc_Ssthresh q0.xCc_Acc q0.xCc_Wmax q0.xCc_Epoch q0.xCc_K q0.xCc_West q0.xCc_Start q0.xCc_Mode q0.xCc_Bw q0.xCc_MinRtt q0.xCc_MinAt q0.xCc_Round q0.xCc_NextAt q0.xCc_Full q0.xCc_FullN q0.xCc_Phase q0.xCc_PhaseAt q0.xCc_DoneAt q0.xCc_Prior))
def s_cubic_ctl_grow_3 {R : Type} (cp : Nat → Nat → Bool) (n : Nat) (p1 v100 : Int) (v101 : SCc) (kn : Int → Int → Option R) : Option R :=
  G_cubic_Curve cp n v101 v100 (fun r104 => G_seq_Clamp cp n r104 v101.xCwnd (wr .i64 (v101.xCwnd + (wr .i64 (Int.tdiv v101.xCwnd 2)))) (fun r105 => G_cubic_by cp n (wr .i64 (529 * v101.xMss)) p1 (wr .i64 (1000 * v101.xCwnd)) (fun r106 => G_seq_Sum cp n v101.xWest r106 (fun r107 => kn r105 (mn 1073741824 r107)))))
def s_cubic_ctl_grow_5 {R : Type} (cp : Nat → Nat → Bool) (n : Nat) (p1 : Int) (v101 : SCc) (v108 v109 : Int) (kn : Int → Option R) : Option R :=
  G_cubic_by cp n (wr .i64 (v108 - v101.xCwnd)) p1 v101.xCwnd (fun r110 => G_seq_Sum cp n v101.xCwnd r110 (fun r111 => kn (mn 1073741824 (mx v109 r111))))
def s_cubic_ctl_grow_8 {R : Type} (cp : Nat → Nat → Bool) (n : Nat) (p1 v100 : Int) (v101 : SCc) (kn : Int → Int → Option R) : Option R :=
  s_cubic_ctl_grow_3 cp n p1 v100 v101 (fun v108 v109 => s_cubic_ctl_grow_5 cp n p1 v101 v108 v109 (fun v112 => (kn v112 v109)))
def s_cubic_ctl_grow_10 {R : Type} (cp : Nat → Nat → Bool) (n : Nat) (p1 p2 p3 : Int) (q0 : ST85) (kn : SCc → Option R) : Option R :=
  s_cubic_ctl_grow_1 cp n p1 p2 p3 q0 (fun v100 v101 => s_cubic_ctl_grow_8 cp n p1 v100 v101 (fun v113 v114 => (kn (SCc.mk v101.xKind v101.xMss v113 v101.xSsthresh v101.xAcc v101.xWmax v101.xEpoch v101.xK v114 v101.xStart v101.xMode v101.xBw v101.xMinRtt v101.xMinAt v101.xRound v101.xNextAt v101.xFull v101.xFullN v101.xPhase v101.xPhaseAt v101.xDoneAt v101.xPrior))))
def G_cubic_ctl_grow {R : Type} (cp : Nat → Nat → Bool) : Nat → Int → Int → Int → ST85 → (ST85 → Option R) → Option R
  | 0, _, _, _, _, _ => none
  | n + 1, p1, p2, p3, q0, k =>
    s_cubic_ctl_grow_10 cp n p1 p2 p3 q0 (fun v115 => k (ST85.mk v115.xKind v115.xMss v115.xCwnd v115.xSsthresh v115.xAcc v115.xWmax v115.xEpoch v115.xK v115.xWest v115.xStart v115.xMode v115.xBw v115.xMinRtt v115.xMinAt v115.xRound v115.xNextAt v115.xFull v115.xFullN v115.xPhase v115.xPhaseAt v115.xDoneAt v115.xPrior))
/-! tideway/cubic.Acked -/
def G_cubic_Acked {R : Type} (cp : Nat → Nat → Bool) : Nat → SCc → Int → Int → Int → Bool → (SCc → Int → Option R) → Option R
  | 0, _, _, _, _, _, _ => none
  | n + 1, p0, p1, p2, p3, p4, k =>
    G_cubic_Check cp n p0 (fun r96 => cond (!decide (r96 = 0)) (k (SCc.mk 0 0 0 0 0 0 0 0 0 0 0 [] 0 0 0 0 0 0 0 0 0 0) r96) (G_cubic_size cp n [p1] (fun r97 => cond (!r97) (k (SCc.mk 0 0 0 0 0 0 0 0 0 0 0 [] 0 0 0 0 0 0 0 0 0 0) 2) (cond (decide (p2 < 0)) (k (SCc.mk 0 0 0 0 0 0 0 0 0 0 0 [] 0 0 0 0 0 0 0 0 0 0) 2) (cond (decide (1125899906842624 < p2)) (k (SCc.mk 0 0 0 0 0 0 0 0 0 0 0 [] 0 0 0 0 0 0 0 0 0 0) 2) (cond (decide (p3 < 0)) (k (SCc.mk 0 0 0 0 0 0 0 0 0 0 0 [] 0 0 0 0 0 0 0 0 0 0) 2) (cond (decide (1125899906842624 < p3)) (k (SCc.mk 0 0 0 0 0 0 0 0 0 0 0 [] 0 0 0 0 0 0 0 0 0 0) 2) (cond (p4) (k (SCc.mk p0.xKind p0.xMss p0.xCwnd p0.xSsthresh p0.xAcc p0.xWmax (-1) p0.xK p0.xWest p0.xStart p0.xMode p0.xBw p0.xMinRtt p0.xMinAt p0.xRound p0.xNextAt p0.xFull p0.xFullN p0.xPhase p0.xPhaseAt p0.xDoneAt p0.xPrior) 0) (cond (decide (p0.xCwnd < p0.xSsthresh)) (k (SCc.mk p0.xKind p0.xMss (mn 1073741824 (wr .i64 (p0.xCwnd + (mn p1 p0.xMss)))) p0.xSsthresh p0.xAcc p0.xWmax p0.xEpoch p0.xK p0.xWest p0.xStart p0.xMode p0.xBw p0.xMinRtt p0.xMinAt p0.xRound p0.xNextAt p0.xFull p0.xFullN p0.xPhase p0.xPhaseAt p0.xDoneAt p0.xPrior) 0) (G_cubic_ctl_grow cp n p1 p2 p3 (ST85.mk p0.xKind p0.xMss p0.xCwnd p0.xSsthresh p0.xAcc p0.xWmax p0.xEpoch p0.xK p0.xWest p0.xStart p0.xMode p0.xBw p0.xMinRtt p0.xMinAt p0.xRound p0.xNextAt p0.xFull p0.xFullN p0.xPhase p0.xPhaseAt p0.xDoneAt p0.xPrior) (fun r116 => k (SCc.mk r116.xCc_Kind r116.xCc_Mss r116.xCc_Cwnd r116.xCc_Ssthresh r116.xCc_Acc r116.xCc_Wmax r116.xCc_Epoch r116.xCc_K r116.xCc_West r116.xCc_Start r116.xCc_Mode r116.xCc_Bw r116.xCc_MinRtt r116.xCc_MinAt r116.xCc_Round r116.xCc_NextAt r116.xCc_Full r116.xCc_FullN r116.xCc_Phase r116.xCc_PhaseAt r116.xCc_DoneAt r116.xCc_Prior) 0)))))))))))
/-! tideway/cc.Acked -/
def s_cc_Acked_1 {R : Type} (cp : Nat → Nat → Bool) (n : Nat) (p0 : SCc) (p1 : SSample) (p2 : Int) (kn : Option R) (kr : Int → SCc → Option R) : Option R :=
  cond (decide (p0.xKind = 3)) (G_bbr_Acked cp n p0 p1 (fun r133 r134 => kr r134 r133)) (kn)
def s_cc_Acked_4 {R : Type} (cp : Nat → Nat → Bool) (n : Nat) (p0 : SCc) (p1 : SSample) (p2 : Int) (kn : Int → Option R) : Option R :=
  G_cc_size cp n p1.xAcked (fun r137 => cond (r137) (G_cc_time cp n p1.xNow (fun r138 => cond (r138) (G_cc_time cp n p2 (fun r139 => G_cc_asked cp n p0 r139 (fun r140 => kn r140))) (G_cc_asked cp n p0 false (fun r141 => kn r141)))) (G_cc_asked cp n p0 false (fun r142 => kn r142)))
def s_cc_Acked_6 {R : Type} (cp : Nat → Nat → Bool) (n : Nat) (p0 : SCc) (p1 : SSample) (p2 v143 : Int) (kn : Option R) (kr : Option R) : Option R :=
  cond (!decide (v143 = 0)) (kr) (kn)
def s_cc_Acked_9 {R : Type} (cp : Nat → Nat → Bool) (n : Nat) (p0 : SCc) (p1 : SSample) (p2 : Int) (kn : Option R) (kr : Int → Option R) : Option R :=
  s_cc_Acked_4 cp n p0 p1 p2 (fun v143 => s_cc_Acked_6 cp n p0 p1 p2 v143 kn (kr v143))
def s_cc_Acked_10 {R : Type} (cp : Nat → Nat → Bool) (n : Nat) (p0 : SCc) (p1 : SSample) (p2 : Int) (kr : Int → SCc → Option R) : Option R :=
  cond (decide (p0.xKind = 1)) (G_reno_Acked cp n p0 p1.xAcked p1.xIdle (fun r145 r146 => kr r146 r145)) (G_cubic_Acked cp n p0 p1.xAcked p1.xNow p2 p1.xIdle (fun r147 r148 => kr r148 r147))
def s_cc_Acked_13 {R : Type} (cp : Nat → Nat → Bool) (n : Nat) (p0 : SCc) (p1 : SSample) (p2 : Int) (kr : Int → SCc → Option R) : Option R :=
  s_cc_Acked_9 cp n p0 p1 p2 (s_cc_Acked_10 cp n p0 p1 p2 (fun v149 v150 => (kr v149 v150))) (fun v144 => (kr v144 (SCc.mk 0 0 0 0 0 0 0 0 0 0 0 [] 0 0 0 0 0 0 0 0 0 0)))
def s_cc_Acked_15 {R : Type} (cp : Nat → Nat → Bool) (n : Nat) (p0 : SCc) (p1 : SSample) (p2 : Int) (kr : Int → SCc → Option R) : Option R :=
  s_cc_Acked_1 cp n p0 p1 p2 (s_cc_Acked_13 cp n p0 p1 p2 (fun v151 v152 => (kr v151 v152))) (fun v135 v136 => (kr v135 v136))
def G_cc_Acked {R : Type} (cp : Nat → Nat → Bool) : Nat → SCc → SSample → Int → (SCc → Int → Option R) → Option R
  | 0, _, _, _, _ => none
  | n + 1, p0, p1, p2, k =>
    s_cc_Acked_15 cp n p0 p1 p2 (fun v153 v154 => k v154 v153)
/-! tideway/tidewaylaw19.CcStays -/
def s_law19_CcStays_1 {R : Type} (cp : Nat → Nat → Bool) (n : Nat) (p0 p1 : Int) (p2 : (List SSample)) (p3 : (List Int)) (kn : SCc → Option R) (kr : Bool → Option R) : Option R :=
  G_cc_New cp n p0 p1 4 (fun r109 r110 => cond (!decide (r110 = 0)) (G_law19_heads cp n (fun r111 => kr r111)) (cond (decide (200 < (p2.length : Int))) (G_law19_heads cp n (fun r112 => kr r112)) (cond (decide ((p3.length : Int) < (p2.length : Int))) (G_law19_heads cp n (fun r113 => kr r113)) (kn r109))))
def s_law19_CcStays_4 {R : Type} (cp : Nat → Nat → Bool) (n : Nat) (p0 p1 : Int) (p2 : (List SSample)) (p3 : (List Int)) (v114 : SCc) (kn : Option R) : Option R :=
  kn
def s_law19_CcStays_6 {R : Type} (cp : Nat → Nat → Bool) (n : Nat) (p0 p1 : Int) (p2 : (List SSample)) (p3 : (List Int)) (v116 : Int) (v117 : SCc) (kn : Option R) (ke0 : Option R) : Option R :=
  cond (decide (v116 < (p2.length : Int))) (kn) (ke0)
def s_law19_CcStays_9 {R : Type} (cp : Nat → Nat → Bool) (n : Nat) (p0 p1 : Int) (p2 : (List SSample)) (p3 : (List Int)) (v116 : Int) (v117 : SCc) (kn : Option R) : Option R :=
  kn
def s_law19_CcStays_11 {R : Type} (cp : Nat → Nat → Bool) (n : Nat) (p0 p1 : Int) (p2 : (List SSample)) (p3 : (List Int)) (v116 : Int) (v117 : SCc) (kn : Int → Option R) : Option R :=
  cond (decide (0 ≤ v116)) (cond (decide (v116 < (p3.length : Int))) (kn (bits .and .i64 (p3.getD (Int.toNat v116) zint) 7)) (none)) (none)
def s_law19_CcStays_13 {R : Type} (cp : Nat → Nat → Bool) (n : Nat) (p0 p1 : Int) (p2 : (List SSample)) (p3 : (List Int)) (v116 : Int) (v117 : SCc) (v118 : Int) (kn : Bool → Option R) : Option R :=
  kn (decide (v118 = 0))
def s_law19_CcStays_15 {R : Type} (cp : Nat → Nat → Bool) (n : Nat) (p0 p1 : Int) (p2 : (List SSample)) (p3 : (List Int)) (v116 : Int) (v117 : SCc) (v118 : Int) (v119 : Bool) (kn : Int → SCc → Option R) : Option R :=
  cond (decide (0 ≤ v116)) (cond (decide (v116 < (p2.length : Int))) (G_cc_Loss cp n v117 ((p2.getD (Int.toNat v116) zSample).xFlight) (fun r120 r121 => kn r121 r120)) (none)) (none)
def s_law19_CcStays_17 {R : Type} (cp : Nat → Nat → Bool) (n : Nat) (p0 p1 : Int) (p2 : (List SSample)) (p3 : (List Int)) (v116 : Int) (v117 : SCc) (v118 : Int) (v119 : Bool) (kn : Bool → Option R) : Option R :=
  kn (decide (v118 = 1))
def s_law19_CcStays_19 {R : Type} (cp : Nat → Nat → Bool) (n : Nat) (p0 p1 : Int) (p2 : (List SSample)) (p3 : (List Int)) (v116 : Int) (v117 : SCc) (v118 : Int) (v124 : Bool) (kn : Int → SCc → Option R) : Option R :=
  cond (decide (0 ≤ v116)) (cond (decide (v116 < (p2.length : Int))) (G_cc_Timeout cp n v117 ((p2.getD (Int.toNat v116) zSample).xFlight) (fun r125 r126 => kn r126 r125)) (none)) (none)
def s_law19_CcStays_21 {R : Type} (cp : Nat → Nat → Bool) (n : Nat) (p0 p1 : Int) (p2 : (List SSample)) (p3 : (List Int)) (v116 : Int) (v117 : SCc) (v118 : Int) (v124 : Bool) (kn : Bool → Option R) : Option R :=
  kn (decide (v118 = 2))
def s_law19_CcStays_23 {R : Type} (cp : Nat → Nat → Bool) (n : Nat) (p0 p1 : Int) (p2 : (List SSample)) (p3 : (List Int)) (v116 : Int) (v117 : SCc) (v118 : Int) (v129 : Bool) (kn : Int → SCc → Option R) : Option R :=
  G_cc_Done cp n v117 (fun r130 r131 => kn r131 r130)
def s_law19_CcStays_25 {R : Type} (cp : Nat → Nat → Bool) (n : Nat) (p0 p1 : Int) (p2 : (List SSample)) (p3 : (List Int)) (v116 : Int) (v117 : SCc) (v118 : Int) (v129 : Bool) (kn : Bool → Option R) : Option R :=
  kn (decide (v118 = 3))
def s_law19_CcStays_27 {R : Type} (cp : Nat → Nat → Bool) (n : Nat) (p0 p1 : Int) (p2 : (List SSample)) (p3 : (List Int)) (v116 : Int) (v117 : SCc) (v118 : Int) (v134 : Bool) (kn : Int → SCc → Option R) : Option R :=
  cond (decide (0 ≤ v116)) (cond (decide (v116 < (p2.length : Int))) (cond (decide (0 ≤ v116)) (cond (decide (v116 < (p2.length : Int))) (cond (decide (0 ≤ v116)) (cond (decide (v116 < (p2.length : Int))) (G_cc_Rest cp n v117 ((p2.getD (Int.toNat v116) zSample).xNow) ((p2.getD (Int.toNat v116) zSample).xRtt) ((p2.getD (Int.toNat v116) zSample).xFlight) (fun r135 r136 => kn r136 r135)) (none)) (none)) (none)) (none)) (none)) (none)
def s_law19_CcStays_29 {R : Type} (cp : Nat → Nat → Bool) (n : Nat) (p0 p1 : Int) (p2 : (List SSample)) (p3 : (List Int)) (v116 : Int) (v117 : SCc) (v118 : Int) (v134 : Bool) (kn : Int → SCc → Option R) : Option R :=
  cond (decide (v118 = 4)) (cond (decide (0 ≤ v116)) (cond (decide (v116 < (p2.length : Int))) (G_cc_Limit cp n v117 ((p2.getD (Int.toNat v116) zSample).xFlight) (fun r139 r140 => kn r140 r139)) (none)) (none)) (cond (decide (v118 = 5)) (cond (decide (v118 = 5)) (cond (decide (0 ≤ v116)) (cond (decide (v116 < (p2.length : Int))) (cond (decide (0 ≤ v116)) (cond (decide (v116 < (p2.length : Int))) (G_cc_Acked cp n v117 (p2.getD (Int.toNat v116) zSample) ((p2.getD (Int.toNat v116) zSample).xRtt) (fun r141 r142 => kn r142 r141)) (none)) (none)) (none)) (none)) (kn 0 v117)) (cond (decide (v118 = 6)) (cond (decide (v118 = 6)) (cond (decide (0 ≤ v116)) (cond (decide (v116 < (p2.length : Int))) (cond (decide (0 ≤ v116)) (cond (decide (v116 < (p2.length : Int))) (G_cc_Acked cp n v117 (p2.getD (Int.toNat v116) zSample) ((p2.getD (Int.toNat v116) zSample).xRtt) (fun r143 r144 => kn r144 r143)) (none)) (none)) (none)) (none)) (kn 0 v117)) (cond (decide (v118 = 7)) (cond (decide (0 ≤ v116)) (cond (decide (v116 < (p2.length : Int))) (cond (decide (0 ≤ v116)) (cond (decide (v116 < (p2.length : Int))) (G_cc_Acked cp n v117 (p2.getD (Int.toNat v116) zSample) ((p2.getD (Int.toNat v116) zSample).xRtt) (fun r145 r146 => kn r146 r145)) (none)) (none)) (none)) (none)) (kn 0 v117))))
def s_law19_CcStays_31 {R : Type} (cp : Nat → Nat → Bool) (n : Nat) (p0 p1 : Int) (p2 : (List SSample)) (p3 : (List Int)) (v116 : Int) (v117 : SCc) (v118 : Int) (v134 : Bool) (kn : Int → SCc → Option R) : Option R :=
  cond (v134) (s_law19_CcStays_27 cp n p0 p1 p2 p3 v116 v117 v118 v134 (fun v137 v138 => (kn v137 v138))) (s_law19_CcStays_29 cp n p0 p1 p2 p3 v116 v117 v118 v134 (fun v147 v148 => (kn v147 v148)))
def s_law19_CcStays_34 {R : Type} (cp : Nat → Nat → Bool) (n : Nat) (p0 p1 : Int) (p2 : (List SSample)) (p3 : (List Int)) (v116 : Int) (v117 : SCc) (v118 : Int) (v129 : Bool) (kn : Int → SCc → Option R) : Option R :=
  s_law19_CcStays_25 cp n p0 p1 p2 p3 v116 v117 v118 v129 (fun v134 => s_law19_CcStays_31 cp n p0 p1 p2 p3 v116 v117 v118 v134 (fun v149 v150 => (kn v149 v150)))
def s_law19_CcStays_35 {R : Type} (cp : Nat → Nat → Bool) (n : Nat) (p0 p1 : Int) (p2 : (List SSample)) (p3 : (List Int)) (v116 : Int) (v117 : SCc) (v118 : Int) (v129 : Bool) (kn : Int → SCc → Option R) : Option R :=
  cond (v129) (s_law19_CcStays_23 cp n p0 p1 p2 p3 v116 v117 v118 v129 (fun v132 v133 => (kn v132 v133))) (s_law19_CcStays_34 cp n p0 p1 p2 p3 v116 v117 v118 v129 (fun v151 v152 => (kn v151 v152)))
def s_law19_CcStays_38 {R : Type} (cp : Nat → Nat → Bool) (n : Nat) (p0 p1 : Int) (p2 : (List SSample)) (p3 : (List Int)) (v116 : Int) (v117 : SCc) (v118 : Int) (v124 : Bool) (kn : Int → SCc → Option R) : Option R :=
  s_law19_CcStays_21 cp n p0 p1 p2 p3 v116 v117 v118 v124 (fun v129 => s_law19_CcStays_35 cp n p0 p1 p2 p3 v116 v117 v118 v129 (fun v153 v154 => (kn v153 v154)))
def s_law19_CcStays_39 {R : Type} (cp : Nat → Nat → Bool) (n : Nat) (p0 p1 : Int) (p2 : (List SSample)) (p3 : (List Int)) (v116 : Int) (v117 : SCc) (v118 : Int) (v124 : Bool) (kn : Int → SCc → Option R) : Option R :=
  cond (v124) (s_law19_CcStays_19 cp n p0 p1 p2 p3 v116 v117 v118 v124 (fun v127 v128 => (kn v127 v128))) (s_law19_CcStays_38 cp n p0 p1 p2 p3 v116 v117 v118 v124 (fun v155 v156 => (kn v155 v156)))
def s_law19_CcStays_42 {R : Type} (cp : Nat → Nat → Bool) (n : Nat) (p0 p1 : Int) (p2 : (List SSample)) (p3 : (List Int)) (v116 : Int) (v117 : SCc) (v118 : Int) (v119 : Bool) (kn : Int → SCc → Option R) : Option R :=
  s_law19_CcStays_17 cp n p0 p1 p2 p3 v116 v117 v118 v119 (fun v124 => s_law19_CcStays_39 cp n p0 p1 p2 p3 v116 v117 v118 v124 (fun v157 v158 => (kn v157 v158)))
def s_law19_CcStays_43 {R : Type} (cp : Nat → Nat → Bool) (n : Nat) (p0 p1 : Int) (p2 : (List SSample)) (p3 : (List Int)) (v116 : Int) (v117 : SCc) (v118 : Int) (v119 : Bool) (kn : Int → SCc → Option R) : Option R :=
  cond (v119) (s_law19_CcStays_15 cp n p0 p1 p2 p3 v116 v117 v118 v119 (fun v122 v123 => (kn v122 v123))) (s_law19_CcStays_42 cp n p0 p1 p2 p3 v116 v117 v118 v119 (fun v159 v160 => (kn v159 v160)))
def s_law19_CcStays_46 {R : Type} (cp : Nat → Nat → Bool) (n : Nat) (p0 p1 : Int) (p2 : (List SSample)) (p3 : (List Int)) (v116 : Int) (v117 : SCc) (v118 : Int) (kn : Int → SCc → Option R) : Option R :=
  s_law19_CcStays_13 cp n p0 p1 p2 p3 v116 v117 v118 (fun v119 => s_law19_CcStays_43 cp n p0 p1 p2 p3 v116 v117 v118 v119 (fun v161 v162 => (kn v161 v162)))
def s_law19_CcStays_48 {R : Type} (cp : Nat → Nat → Bool) (n : Nat) (p0 p1 : Int) (p2 : (List SSample)) (p3 : (List Int)) (v116 : Int) (v117 : SCc) (v118 : Int) (kn : Int → SCc → Option R) : Option R :=
  s_law19_CcStays_46 cp n p0 p1 p2 p3 v116 v117 v118 (fun v163 v164 => (kn v163 v164))
def s_law19_CcStays_50 {R : Type} (cp : Nat → Nat → Bool) (n : Nat) (p0 p1 : Int) (p2 : (List SSample)) (p3 : (List Int)) (v116 : Int) (v117 : SCc) (kn : Int → SCc → Option R) : Option R :=
  s_law19_CcStays_11 cp n p0 p1 p2 p3 v116 v117 (fun v118 => s_law19_CcStays_48 cp n p0 p1 p2 p3 v116 v117 v118 (fun v165 v166 => (kn v165 v166)))
def s_law19_CcStays_51 {R : Type} (cp : Nat → Nat → Bool) (n : Nat) (p0 p1 : Int) (p2 : (List SSample)) (p3 : (List Int)) (v116 : Int) (v117 : SCc) (v167 : Int) (v168 : SCc) (kn : Option R) (kr : Bool → Option R) : Option R :=
  cond (!decide (v167 = 0)) (cond (decide (v167 = 2)) (G_law19_heads cp n (fun r169 => kr r169)) (kr false)) (G_cc_Check cp n v168 (fun r170 => cond (!decide (r170 = 0)) (kr false) (cond (decide (v168.xCwnd < p1)) (kr false) (cond (decide (1073741824 < v168.xCwnd)) (kr false) (cond (!decide (v168.xKind = p0)) (kr false) (cond (!decide (v168.xMss = p1)) (kr false) (cond (decide (0 ≤ v116)) (cond (decide (v116 < (p2.length : Int))) (G_cc_Pace cp n v168 ((p2.getD (Int.toNat v116) zSample).xRtt) 7 (fun r171 => cond (decide (r171 < 7)) (kr false) (cond (decide (1099511627776 < r171)) (kr false) (kn)))) (none)) (none))))))))
def s_law19_CcStays_56 {R : Type} (cp : Nat → Nat → Bool) (n : Nat) (p0 p1 : Int) (p2 : (List SSample)) (p3 : (List Int)) (v116 : Int) (v117 : SCc) (kn : SCc → Option R) (kr : Bool → Option R) : Option R :=
  s_law19_CcStays_50 cp n p0 p1 p2 p3 v116 v117 (fun v167 v168 => s_law19_CcStays_51 cp n p0 p1 p2 p3 v116 v117 v167 v168 (kn v168) (fun v172 => (kr v172)))
def s_law19_CcStays_59 {R : Type} (cp : Nat → Nat → Bool) (n : Nat) (p0 p1 : Int) (p2 : (List SSample)) (p3 : (List Int)) (v116 : Int) (v117 : SCc) (kn : SCc → Option R) (kr : Bool → Option R) : Option R :=
  s_law19_CcStays_9 cp n p0 p1 p2 p3 v116 v117 (s_law19_CcStays_56 cp n p0 p1 p2 p3 v116 v117 (fun v173 => (kn v173)) (fun v174 => (kr v174)))
def s_law19_CcStays_62 {R : Type} (cp : Nat → Nat → Bool) (n : Nat) (p0 p1 : Int) (p2 : (List SSample)) (p3 : (List Int)) (v116 : Int) (v117 : SCc) (kn : SCc → Option R) (kr : Bool → Option R) : Option R :=
  s_law19_CcStays_59 cp n p0 p1 p2 p3 v116 v117 (fun v175 => (kn v175)) (fun v176 => (kr v176))
def s_law19_CcStays_63 {R : Type} (cp : Nat → Nat → Bool) (n : Nat) (p0 p1 : Int) (p2 : (List SSample)) (p3 : (List Int)) (v116 : Int) (v177 : SCc) (kn : Int → Option R) : Option R :=
  kn (wr .i64 (v116 + 1))
def s_law19_CcStays_67 {R : Type} (cp : Nat → Nat → Bool) (n : Nat) (p0 p1 : Int) (p2 : (List SSample)) (p3 : (List Int)) (v116 : Int) (v117 : SCc) (kn : Int → SCc → Option R) (kr : Bool → Option R) : Option R :=
  s_law19_CcStays_62 cp n p0 p1 p2 p3 v116 v117 (fun v177 => s_law19_CcStays_63 cp n p0 p1 p2 p3 v116 v177 (fun v179 => (kn v179 v177))) (fun v178 => (kr v178))
def s_law19_CcStays_70 {R : Type} (cp : Nat → Nat → Bool) (n : Nat) (p0 p1 : Int) (p2 : (List SSample)) (p3 : (List Int)) (v116 : Int) (v117 : SCc) (kn : Int → SCc → Option R) (kr : Bool → Option R) (ke0 : Option R) : Option R :=
  s_law19_CcStays_6 cp n p0 p1 p2 p3 v116 v117 (s_law19_CcStays_67 cp n p0 p1 p2 p3 v116 v117 (fun v180 v181 => (kn v180 v181)) (fun v182 => (kr v182))) ke0
def l_law19_CcStays_72 {R : Type} (cp : Nat → Nat → Bool) (n : Nat) : Nat → Int → Int → (List SSample) → (List Int) → Int → SCc → (Bool → Option R) → (Option R) → Option R
  | 0, _, _, _, _, _, _, _, _ => none
  | m + 1, p0, p1, p2, p3, v116, v117, kr, ke0 =>
    s_law19_CcStays_70 cp n p0 p1 p2 p3 v116 v117 (fun v183 v184 => l_law19_CcStays_72 cp n m p0 p1 p2 p3 v183 v184 kr ke0) (fun v185 => (kr v185)) ke0
def s_law19_CcStays_73 {R : Type} (cp : Nat → Nat → Bool) (n : Nat) (p0 p1 : Int) (p2 : (List SSample)) (p3 : (List Int)) (v114 : SCc) (kr : Bool → Option R) (ke0 : Option R) : Option R :=
  l_law19_CcStays_72 cp n n p0 p1 p2 p3 0 v114 kr ke0
def s_law19_CcStays_75 {R : Type} (cp : Nat → Nat → Bool) (n : Nat) (p0 p1 : Int) (p2 : (List SSample)) (p3 : (List Int)) (v114 : SCc) (kn : Option R) (kr : Bool → Option R) : Option R :=
  s_law19_CcStays_73 cp n p0 p1 p2 p3 v114 (fun v186 => (kr v186)) kn
def s_law19_CcStays_77 {R : Type} (cp : Nat → Nat → Bool) (n : Nat) (p0 p1 : Int) (p2 : (List SSample)) (p3 : (List Int)) (v114 : SCc) (kn : Option R) (kr : Bool → Option R) : Option R :=
  s_law19_CcStays_4 cp n p0 p1 p2 p3 v114 (s_law19_CcStays_75 cp n p0 p1 p2 p3 v114 kn (fun v187 => (kr v187)))
def s_law19_CcStays_78 {R : Type} (cp : Nat → Nat → Bool) (n : Nat) (kr : Bool → Option R) : Option R :=
  G_law19_heads cp n (fun r189 => kr r189)
def s_law19_CcStays_81 {R : Type} (cp : Nat → Nat → Bool) (n : Nat) (p0 p1 : Int) (p2 : (List SSample)) (p3 : (List Int)) (v114 : SCc) (kr : Bool → Option R) : Option R :=
  s_law19_CcStays_77 cp n p0 p1 p2 p3 v114 (s_law19_CcStays_78 cp n (fun v190 => (kr v190))) (fun v188 => (kr v188))
def s_law19_CcStays_83 {R : Type} (cp : Nat → Nat → Bool) (n : Nat) (p0 p1 : Int) (p2 : (List SSample)) (p3 : (List Int)) (kr : Bool → Option R) : Option R :=
  s_law19_CcStays_1 cp n p0 p1 p2 p3 (fun v114 => s_law19_CcStays_81 cp n p0 p1 p2 p3 v114 (fun v191 => (kr v191))) (fun v115 => (kr v115))
def G_law19_CcStays {R : Type} (cp : Nat → Nat → Bool) : Nat → Int → Int → (List SSample) → (List Int) → (Bool → Option R) → Option R
  | 0, _, _, _, _, _ => none
  | n + 1, p0, p1, p2, p3, k =>
    s_law19_CcStays_83 cp n p0 p1 p2 p3 (fun v192 => k v192)
def ca_reno_New {R : Type} (cp : Nat → Nat → Bool) (n : Nat) (av : Fr) (cs : List Fr) (k : Ret2 RW → Option R) : Option R := match av, cs with
  | [y0, y1], [] => (dI .i64 y0).bind fun p0 => (dI .i64 y1).bind fun p1 => G_reno_New cp n p0 p1 (fun r0 r1 => k ⟨.tup [.agg (eCct r0), (tL r1)], [], []⟩)
  | _, _ => none
def ca_cubic_New {R : Type} (cp : Nat → Nat → Bool) (n : Nat) (av : Fr) (cs : List Fr) (k : Ret2 RW → Option R) : Option R := match av, cs with
  | [y0, y1], [] => (dI .i64 y0).bind fun p0 => (dI .i64 y1).bind fun p1 => G_cubic_New cp n p0 p1 (fun r0 r1 => k ⟨.tup [.agg (eCct r0), (tL r1)], [], []⟩)
  | _, _ => none
def ca_bbr_New {R : Type} (cp : Nat → Nat → Bool) (n : Nat) (av : Fr) (cs : List Fr) (k : Ret2 RW → Option R) : Option R := match av, cs with
  | [y0, y1], [] => (dI .i64 y0).bind fun p0 => (dI .i64 y1).bind fun p1 => G_bbr_New cp n p0 p1 (fun r0 r1 => k ⟨.tup [.agg (eCct r0), (tL r1)], [], []⟩)
  | _, _ => none
def ca_cc_New {R : Type} (cp : Nat → Nat → Bool) (n : Nat) (av : Fr) (cs : List Fr) (k : Ret2 RW → Option R) : Option R := match av, cs with
  | [y0, y1, y2], [] => (dI .i64 y0).bind fun p0 => (dI .i64 y1).bind fun p1 => (dI .i64 y2).bind fun p2 => G_cc_New cp n p0 p1 p2 (fun r0 r1 => k ⟨.tup [.agg (eCct r0), (tL r1)], [], []⟩)
  | _, _ => none
def ca_cc_time {R : Type} (cp : Nat → Nat → Bool) (n : Nat) (av : Fr) (cs : List Fr) (k : Ret2 RW → Option R) : Option R := match av, cs with
  | [y0], [] => (dI .i64 y0).bind fun p0 => G_cc_time cp n p0 (fun r0 => k ⟨(tB r0), [], []⟩)
  | _, _ => none
def ca_cc_size {R : Type} (cp : Nat → Nat → Bool) (n : Nat) (av : Fr) (cs : List Fr) (k : Ret2 RW → Option R) : Option R := match av, cs with
  | [y0], [] => (dI .i64 y0).bind fun p0 => G_cc_size cp n p0 (fun r0 => k ⟨(tB r0), [], []⟩)
  | _, _ => none
def ca_reno_size {R : Type} (cp : Nat → Nat → Bool) (n : Nat) (av : Fr) (cs : List Fr) (k : Ret2 RW → Option R) : Option R := match av, cs with
  | [y0], [] => (dI .i64 y0).bind fun p0 => G_reno_size cp n p0 (fun r0 => k ⟨(tB r0), [], []⟩)
  | _, _ => none
def ca_reno_ctl_plain {R : Type} (cp : Nat → Nat → Bool) (n : Nat) (av : Fr) (cs : List Fr) (k : Ret2 RW → Option R) : Option R := match av, cs with
  | [y0], [w0] => (dP 138 0 y0).bind fun _ => (dctl w0).bind fun q0 => G_reno_ctl_plain cp n q0 (fun r0 r1 => k ⟨(tB r0), [(ectl r1)], []⟩)
  | _, _ => none
def ca_reno_Check {R : Type} (cp : Nat → Nat → Bool) (n : Nat) (av : Fr) (cs : List Fr) (k : Ret2 RW → Option R) : Option R := match av, cs with
  | [y0], [] => (dA y0).bind fun c0_ => (dCc c0_).bind fun p0 => G_reno_Check cp n p0 (fun r0 => k ⟨(tL r0), [], []⟩)
  | _, _ => none
def ca_cubic_size {R : Type} (cp : Nat → Nat → Bool) (n : Nat) (av : Fr) (cs : List Fr) (k : Ret2 RW → Option R) : Option R := match av, cs with
  | [y0], [] => (dRint false y0).bind fun p0 => G_cubic_size cp n p0 (fun r0 => k ⟨(tB r0), [], []⟩)
  | _, _ => none
def ca_cubic_Check {R : Type} (cp : Nat → Nat → Bool) (n : Nat) (av : Fr) (cs : List Fr) (k : Ret2 RW → Option R) : Option R := match av, cs with
  | [y0], [] => (dA y0).bind fun c0_ => (dCc c0_).bind fun p0 => G_cubic_Check cp n p0 (fun r0 => k ⟨(tL r0), [], []⟩)
  | _, _ => none
def ca_bbr_within {R : Type} (cp : Nat → Nat → Bool) (n : Nat) (av : Fr) (cs : List Fr) (k : Ret2 RW → Option R) : Option R := match av, cs with
  | [y0, y1], [] => (dI .i64 y0).bind fun p0 => (dRint false y1).bind fun p1 => G_bbr_within cp n p0 p1 (fun r0 => k ⟨(tB r0), [], []⟩)
  | _, _ => none
def ca_filter_may {R : Type} (cp : Nat → Nat → Bool) (n : Nat) (av : Fr) (cs : List Fr) (k : Ret2 RW → Option R) : Option R := match av, cs with
  | [y0], [] => (dA y0).bind fun c0_ => (dEntry c0_).bind fun p0 => G_filter_may cp n p0 (fun r0 => k ⟨(tB r0), [], []⟩)
  | _, _ => none
def ca_filter_beats {R : Type} (cp : Nat → Nat → Bool) (n : Nat) (av : Fr) (cs : List Fr) (k : Ret2 RW → Option R) : Option R := match av, cs with
  | [y0, y1, y2], [] => (dI .i64 y0).bind fun p0 => (dI .i64 y1).bind fun p1 => (dB y2).bind fun p2 => G_filter_beats cp n p0 p1 p2 (fun r0 => k ⟨(tB r0), [], []⟩)
  | _, _ => none
def ca_filter_Check {R : Type} (cp : Nat → Nat → Bool) (n : Nat) (av : Fr) (cs : List Fr) (k : Ret2 RW → Option R) : Option R := match av, cs with
  | [y0, y1], [] => (dREntry false y0).bind fun p0 => (dB y1).bind fun p1 => G_filter_Check cp n p0 p1 (fun r0 => k ⟨(tL r0), [], []⟩)
  | _, _ => none
def ca_bbr_ctl_entries {R : Type} (cp : Nat → Nat → Bool) (n : Nat) (av : Fr) (cs : List Fr) (k : Ret2 RW → Option R) : Option R := match av, cs with
  | [y0], [w0] => (dP 36 0 y0).bind fun _ => (dT68 w0).bind fun q0 => G_bbr_ctl_entries cp n q0 (fun r0 r1 => k ⟨(tB r0), [(eT68 r1)], []⟩)
  | _, _ => none
def ca_bbr_Check {R : Type} (cp : Nat → Nat → Bool) (n : Nat) (av : Fr) (cs : List Fr) (k : Ret2 RW → Option R) : Option R := match av, cs with
  | [y0], [] => (dA y0).bind fun c0_ => (dCc c0_).bind fun p0 => G_bbr_Check cp n p0 (fun r0 => k ⟨(tL r0), [], []⟩)
  | _, _ => none
def ca_cc_Check {R : Type} (cp : Nat → Nat → Bool) (n : Nat) (av : Fr) (cs : List Fr) (k : Ret2 RW → Option R) : Option R := match av, cs with
  | [y0], [] => (dA y0).bind fun c0_ => (dCc c0_).bind fun p0 => G_cc_Check cp n p0 (fun r0 => k ⟨(tL r0), [], []⟩)
  | _, _ => none
def ca_cc_asked {R : Type} (cp : Nat → Nat → Bool) (n : Nat) (av : Fr) (cs : List Fr) (k : Ret2 RW → Option R) : Option R := match av, cs with
  | [y0, y1], [] => (dA y0).bind fun c0_ => (dCc c0_).bind fun p0 => (dB y1).bind fun p1 => G_cc_asked cp n p0 p1 (fun r0 => k ⟨(tL r0), [], []⟩)
  | _, _ => none
def ca_cc_Rest {R : Type} (cp : Nat → Nat → Bool) (n : Nat) (av : Fr) (cs : List Fr) (k : Ret2 RW → Option R) : Option R := match av, cs with
  | [y0, y1, y2, y3], [] => (dA y0).bind fun c0_ => (dCc c0_).bind fun p0 => (dI .i64 y1).bind fun p1 => (dI .i64 y2).bind fun p2 => (dI .i64 y3).bind fun p3 => G_cc_Rest cp n p0 p1 p2 p3 (fun r0 r1 => k ⟨.tup [.agg (eCc r0), (tL r1)], [], []⟩)
  | _, _ => none
def ca_bbr_Gain {R : Type} (cp : Nat → Nat → Bool) (n : Nat) (av : Fr) (cs : List Fr) (k : Ret2 RW → Option R) : Option R := match av, cs with
  | [y0], [] => (dA y0).bind fun c0_ => (dCc c0_).bind fun p0 => G_bbr_Gain cp n p0 (fun r0 => k ⟨(tL r0), [], []⟩)
  | _, _ => none
def ca_filter_Best {R : Type} (cp : Nat → Nat → Bool) (n : Nat) (av : Fr) (cs : List Fr) (k : Ret2 RW → Option R) : Option R := match av, cs with
  | [y0], [] => (dREntry false y0).bind fun p0 => G_filter_Best cp n p0 (fun r0 r1 => k ⟨.tup [(tL r0), (tB r1)], [], []⟩)
  | _, _ => none
def ca_bbr_ctl_bandwidth {R : Type} (cp : Nat → Nat → Bool) (n : Nat) (av : Fr) (cs : List Fr) (k : Ret2 RW → Option R) : Option R := match av, cs with
  | [y0], [w0] => (dP 15 0 y0).bind fun _ => (dT68 w0).bind fun q0 => G_bbr_ctl_bandwidth cp n q0 (fun r0 r1 => k ⟨(tL r0), [(eT68 r1)], []⟩)
  | _, _ => none
def ca_bbr_Bandwidth {R : Type} (cp : Nat → Nat → Bool) (n : Nat) (av : Fr) (cs : List Fr) (k : Ret2 RW → Option R) : Option R := match av, cs with
  | [y0], [] => (dA y0).bind fun c0_ => (dCc c0_).bind fun p0 => G_bbr_Bandwidth cp n p0 (fun r0 => k ⟨(tL r0), [], []⟩)
  | _, _ => none
def ca_math_bits_Mul64 {R : Type} (cp : Nat → Nat → Bool) (n : Nat) (av : Fr) (cs : List Fr) (k : Ret2 RW → Option R) : Option R := match av, cs with
  | [y0, y1], [] => (dI .u64 y0).bind fun p0 => (dI .u64 y1).bind fun p1 => G_math_bits_Mul64 cp n p0 p1 (fun r0 r1 => k ⟨.tup [(tI .u64 r0), (tI .u64 r1)], [], []⟩)
  | _, _ => none
def ca_math_bits_Len64 {R : Type} (cp : Nat → Nat → Bool) (n : Nat) (av : Fr) (cs : List Fr) (k : Ret2 RW → Option R) : Option R := match av, cs with
  | [y0], [] => (dI .u64 y0).bind fun p0 => G_math_bits_Len64 cp n p0 (fun r0 => k ⟨(tL r0), [], []⟩)
  | _, _ => none
def ca_math_bits_LeadingZeros64 {R : Type} (cp : Nat → Nat → Bool) (n : Nat) (av : Fr) (cs : List Fr) (k : Ret2 RW → Option R) : Option R := match av, cs with
  | [y0], [] => (dI .u64 y0).bind fun p0 => G_math_bits_LeadingZeros64 cp n p0 (fun r0 => k ⟨(tL r0), [], []⟩)
  | _, _ => none
def ca_math_bits_Div64 {R : Type} (cp : Nat → Nat → Bool) (n : Nat) (av : Fr) (cs : List Fr) (k : Ret2 RW → Option R) : Option R := match av, cs with
  | [y0, y1, y2], [] => (dI .u64 y0).bind fun p0 => (dI .u64 y1).bind fun p1 => (dI .u64 y2).bind fun p2 => G_math_bits_Div64 cp n p0 p1 p2 (fun r0 r1 => k ⟨.tup [(tI .u64 r0), (tI .u64 r1)], [], []⟩)
  | _, _ => none
def ca_seq_MulDiv {R : Type} (cp : Nat → Nat → Bool) (n : Nat) (av : Fr) (cs : List Fr) (k : Ret2 RW → Option R) : Option R := match av, cs with
  | [y0, y1, y2], [] => (dI .i64 y0).bind fun p0 => (dI .i64 y1).bind fun p1 => (dI .i64 y2).bind fun p2 => G_seq_MulDiv cp n p0 p1 p2 (fun r0 r1 => k ⟨.tup [(tL r0), (tL r1)], [], []⟩)
  | _, _ => none
def ca_cc_Pace {R : Type} (cp : Nat → Nat → Bool) (n : Nat) (av : Fr) (cs : List Fr) (k : Ret2 RW → Option R) : Option R := match av, cs with
  | [y0, y1, y2], [] => (dA y0).bind fun c0_ => (dCc c0_).bind fun p0 => (dI .i64 y1).bind fun p1 => (dI .i64 y2).bind fun p2 => G_cc_Pace cp n p0 p1 p2 (fun r0 => k ⟨(tL r0), [], []⟩)
  | _, _ => none
def ca_law19_heads {R : Type} (cp : Nat → Nat → Bool) (n : Nat) (av : Fr) (cs : List Fr) (k : Ret2 RW → Option R) : Option R := match av, cs with
  | [], [] => G_law19_heads cp n (fun r0 => k ⟨(tB r0), [], []⟩)
  | _, _ => none
def ca_reno_begun {R : Type} (cp : Nat → Nat → Bool) (n : Nat) (av : Fr) (cs : List Fr) (k : Ret2 RW → Option R) : Option R := match av, cs with
  | [y0, y1], [] => (dA y0).bind fun c0_ => (dCc c0_).bind fun p0 => (dI .i64 y1).bind fun p1 => G_reno_begun cp n p0 p1 (fun r0 r1 => k ⟨.tup [.ptr 44 0, (tL r0)], [], [(ectl r1)]⟩)
  | _, _ => none
def ca_reno_Loss {R : Type} (cp : Nat → Nat → Bool) (n : Nat) (av : Fr) (cs : List Fr) (k : Ret2 RW → Option R) : Option R := match av, cs with
  | [y0, y1], [] => (dA y0).bind fun c0_ => (dCc c0_).bind fun p0 => (dI .i64 y1).bind fun p1 => G_reno_Loss cp n p0 p1 (fun r0 r1 => k ⟨.tup [.agg (eCc r0), (tL r1)], [], []⟩)
  | _, _ => none
def ca_cubic_ctl_fall {R : Type} (cp : Nat → Nat → Bool) (n : Nat) (av : Fr) (cs : List Fr) (k : Ret2 RW → Option R) : Option R := match av, cs with
  | [y0], [w0] => (dP 57 0 y0).bind fun _ => (dT85 w0).bind fun q0 => G_cubic_ctl_fall cp n q0 (fun r0 => k ⟨.tup [], [(eT85 r0)], []⟩)
  | _, _ => none
def ca_cubic_moved {R : Type} (cp : Nat → Nat → Bool) (n : Nat) (av : Fr) (cs : List Fr) (k : Ret2 RW → Option R) : Option R := match av, cs with
  | [y0, y1, y2], [] => (dA y0).bind fun c0_ => (dCc c0_).bind fun p0 => (dI .i64 y1).bind fun p1 => (dC 65 [] y2).bind fun _ => G_cubic_moved cp n p0 p1 (fun r0 r1 => k ⟨.tup [.agg (eCc r0), (tL r1)], [], []⟩)
  | _, _ => none
def ca_cubic_Loss {R : Type} (cp : Nat → Nat → Bool) (n : Nat) (av : Fr) (cs : List Fr) (k : Ret2 RW → Option R) : Option R := match av, cs with
  | [y0, y1], [] => (dA y0).bind fun c0_ => (dCc c0_).bind fun p0 => (dI .i64 y1).bind fun p1 => G_cubic_Loss cp n p0 p1 (fun r0 r1 => k ⟨.tup [.agg (eCc r0), (tL r1)], [], []⟩)
  | _, _ => none
def ca_cc_Loss {R : Type} (cp : Nat → Nat → Bool) (n : Nat) (av : Fr) (cs : List Fr) (k : Ret2 RW → Option R) : Option R := match av, cs with
  | [y0, y1], [] => (dA y0).bind fun c0_ => (dCc c0_).bind fun p0 => (dI .i64 y1).bind fun p1 => G_cc_Loss cp n p0 p1 (fun r0 r1 => k ⟨.tup [.agg (eCc r0), (tL r1)], [], []⟩)
  | _, _ => none
def ca_reno_Timeout {R : Type} (cp : Nat → Nat → Bool) (n : Nat) (av : Fr) (cs : List Fr) (k : Ret2 RW → Option R) : Option R := match av, cs with
  | [y0, y1], [] => (dA y0).bind fun c0_ => (dCc c0_).bind fun p0 => (dI .i64 y1).bind fun p1 => G_reno_Timeout cp n p0 p1 (fun r0 r1 => k ⟨.tup [.agg (eCc r0), (tL r1)], [], []⟩)
  | _, _ => none
def ca_cubic_ctl_shut {R : Type} (cp : Nat → Nat → Bool) (n : Nat) (av : Fr) (cs : List Fr) (k : Ret2 RW → Option R) : Option R := match av, cs with
  | [y0], [w0] => (dP 13 0 y0).bind fun _ => (dT85 w0).bind fun q0 => G_cubic_ctl_shut cp n q0 (fun r0 => k ⟨.tup [], [(eT85 r0)], []⟩)
  | _, _ => none
def ca_cubic_moved_b {R : Type} (cp : Nat → Nat → Bool) (n : Nat) (av : Fr) (cs : List Fr) (k : Ret2 RW → Option R) : Option R := match av, cs with
  | [y0, y1, y2], [] => (dA y0).bind fun c0_ => (dCc c0_).bind fun p0 => (dI .i64 y1).bind fun p1 => (dC 66 [] y2).bind fun _ => G_cubic_moved_b cp n p0 p1 (fun r0 r1 => k ⟨.tup [.agg (eCc r0), (tL r1)], [], []⟩)
  | _, _ => none
def ca_cubic_Timeout {R : Type} (cp : Nat → Nat → Bool) (n : Nat) (av : Fr) (cs : List Fr) (k : Ret2 RW → Option R) : Option R := match av, cs with
  | [y0, y1], [] => (dA y0).bind fun c0_ => (dCc c0_).bind fun p0 => (dI .i64 y1).bind fun p1 => G_cubic_Timeout cp n p0 p1 (fun r0 r1 => k ⟨.tup [.agg (eCc r0), (tL r1)], [], []⟩)
  | _, _ => none
def ca_bbr_Timeout {R : Type} (cp : Nat → Nat → Bool) (n : Nat) (av : Fr) (cs : List Fr) (k : Ret2 RW → Option R) : Option R := match av, cs with
  | [y0, y1], [] => (dA y0).bind fun c0_ => (dCc c0_).bind fun p0 => (dI .i64 y1).bind fun p1 => G_bbr_Timeout cp n p0 p1 (fun r0 r1 => k ⟨.tup [.agg (eCc r0), (tL r1)], [], []⟩)
  | _, _ => none
def ca_cc_Timeout {R : Type} (cp : Nat → Nat → Bool) (n : Nat) (av : Fr) (cs : List Fr) (k : Ret2 RW → Option R) : Option R := match av, cs with
  | [y0, y1], [] => (dA y0).bind fun c0_ => (dCc c0_).bind fun p0 => (dI .i64 y1).bind fun p1 => G_cc_Timeout cp n p0 p1 (fun r0 r1 => k ⟨.tup [.agg (eCc r0), (tL r1)], [], []⟩)
  | _, _ => none
def ca_cc_Done {R : Type} (cp : Nat → Nat → Bool) (n : Nat) (av : Fr) (cs : List Fr) (k : Ret2 RW → Option R) : Option R := match av, cs with
  | [y0], [] => (dA y0).bind fun c0_ => (dCc c0_).bind fun p0 => G_cc_Done cp n p0 (fun r0 r1 => k ⟨.tup [.agg (eCc r0), (tL r1)], [], []⟩)
  | _, _ => none
def ca_cc_Limit {R : Type} (cp : Nat → Nat → Bool) (n : Nat) (av : Fr) (cs : List Fr) (k : Ret2 RW → Option R) : Option R := match av, cs with
  | [y0, y1], [] => (dA y0).bind fun c0_ => (dCc c0_).bind fun p0 => (dI .i64 y1).bind fun p1 => G_cc_Limit cp n p0 p1 (fun r0 r1 => k ⟨.tup [.agg (eCc r0), (tL r1)], [], []⟩)
  | _, _ => none
def ca_bbr_ctl_round {R : Type} (cp : Nat → Nat → Bool) (n : Nat) (av : Fr) (cs : List Fr) (k : Ret2 RW → Option R) : Option R := match av, cs with
  | [y0, y1], [w0] => (dP 30 0 y0).bind fun _ => (dA y1).bind fun c1_ => (dSample c1_).bind fun p1 => (dT68 w0).bind fun q0 => G_bbr_ctl_round cp n p1 q0 (fun r0 r1 => k ⟨(tB r0), [(eT68 r1)], []⟩)
  | _, _ => none
def ca_filter_Put {R : Type} (cp : Nat → Nat → Bool) (n : Nat) (av : Fr) (cs : List Fr) (k : Ret2 RW → Option R) : Option R := match av, cs with
  | [y0, y1, y2, y3, y4], [] => (dREntry false y0).bind fun p0 => (dI .i64 y1).bind fun p1 => (dI .i64 y2).bind fun p2 => (dI .i64 y3).bind fun p3 => (dB y4).bind fun p4 => G_filter_Put cp n p0 p1 p2 p3 p4 (fun r0 r1 => k ⟨.tup [.row false (.rEntry r0), (tL r1)], [], []⟩)
  | _, _ => none
def ca_bbr_ctl_speed {R : Type} (cp : Nat → Nat → Bool) (n : Nat) (av : Fr) (cs : List Fr) (k : Ret2 RW → Option R) : Option R := match av, cs with
  | [y0, y1], [w0] => (dP 74 0 y0).bind fun _ => (dA y1).bind fun c1_ => (dSample c1_).bind fun p1 => (dT68 w0).bind fun q0 => G_bbr_ctl_speed cp n p1 q0 (fun r0 => k ⟨.tup [], [(eT68 r0)], []⟩)
  | _, _ => none
def ca_bbr_ctl_shortest {R : Type} (cp : Nat → Nat → Bool) (n : Nat) (av : Fr) (cs : List Fr) (k : Ret2 RW → Option R) : Option R := match av, cs with
  | [y0, y1], [w0] => (dP 60 0 y0).bind fun _ => (dA y1).bind fun c1_ => (dSample c1_).bind fun p1 => (dT68 w0).bind fun q0 => G_bbr_ctl_shortest cp n p1 q0 (fun r0 r1 => k ⟨(tB r0), [(eT68 r1)], []⟩)
  | _, _ => none
def ca_bbr_ctl_full {R : Type} (cp : Nat → Nat → Bool) (n : Nat) (av : Fr) (cs : List Fr) (k : Ret2 RW → Option R) : Option R := match av, cs with
  | [y0], [w0] => (dP 48 0 y0).bind fun _ => (dT68 w0).bind fun q0 => G_bbr_ctl_full cp n q0 (fun r0 => k ⟨.tup [], [(eT68 r0)], []⟩)
  | _, _ => none
def ca_bbr_ctl_product {R : Type} (cp : Nat → Nat → Bool) (n : Nat) (av : Fr) (cs : List Fr) (k : Ret2 RW → Option R) : Option R := match av, cs with
  | [y0], [w0] => (dP 18 0 y0).bind fun _ => (dT68 w0).bind fun q0 => G_bbr_ctl_product cp n q0 (fun r0 r1 => k ⟨(tL r0), [(eT68 r1)], []⟩)
  | _, _ => none
def ca_bbr_ctl_probe {R : Type} (cp : Nat → Nat → Bool) (n : Nat) (av : Fr) (cs : List Fr) (k : Ret2 RW → Option R) : Option R := match av, cs with
  | [y0, y1], [w0] => (dP 17 0 y0).bind fun _ => (dI .i64 y1).bind fun p1 => (dT68 w0).bind fun q0 => G_bbr_ctl_probe cp n p1 q0 (fun r0 => k ⟨.tup [], [(eT68 r0)], []⟩)
  | _, _ => none
def ca_bbr_ctl_cycle {R : Type} (cp : Nat → Nat → Bool) (n : Nat) (av : Fr) (cs : List Fr) (k : Ret2 RW → Option R) : Option R := match av, cs with
  | [y0, y1], [w0] => (dP 62 0 y0).bind fun _ => (dA y1).bind fun c1_ => (dSample c1_).bind fun p1 => (dT68 w0).bind fun q0 => G_bbr_ctl_cycle cp n p1 q0 (fun r0 => k ⟨.tup [], [(eT68 r0)], []⟩)
  | _, _ => none
def ca_bbr_ctl_ask {R : Type} (cp : Nat → Nat → Bool) (n : Nat) (av : Fr) (cs : List Fr) (k : Ret2 RW → Option R) : Option R := match av, cs with
  | [y0, y1, y2], [w0] => (dP 122 0 y0).bind fun _ => (dA y1).bind fun c1_ => (dSample c1_).bind fun p1 => (dB y2).bind fun p2 => (dT68 w0).bind fun q0 => G_bbr_ctl_ask cp n p1 p2 q0 (fun r0 => k ⟨.tup [], [(eT68 r0)], []⟩)
  | _, _ => none
def ca_seq_Clamp {R : Type} (cp : Nat → Nat → Bool) (n : Nat) (av : Fr) (cs : List Fr) (k : Ret2 RW → Option R) : Option R := match av, cs with
  | [y0, y1, y2], [] => (dI .i64 y0).bind fun p0 => (dI .i64 y1).bind fun p1 => (dI .i64 y2).bind fun p2 => G_seq_Clamp cp n p0 p1 p2 (fun r0 => k ⟨(tL r0), [], []⟩)
  | _, _ => none
def ca_bbr_ctl_window {R : Type} (cp : Nat → Nat → Bool) (n : Nat) (av : Fr) (cs : List Fr) (k : Ret2 RW → Option R) : Option R := match av, cs with
  | [y0, y1], [w0] => (dP 73 0 y0).bind fun _ => (dA y1).bind fun c1_ => (dSample c1_).bind fun p1 => (dT68 w0).bind fun q0 => G_bbr_ctl_window cp n p1 q0 (fun r0 => k ⟨.tup [], [(eT68 r0)], []⟩)
  | _, _ => none
def ca_bbr_Acked {R : Type} (cp : Nat → Nat → Bool) (n : Nat) (av : Fr) (cs : List Fr) (k : Ret2 RW → Option R) : Option R := match av, cs with
  | [y0, y1], [] => (dA y0).bind fun c0_ => (dCc c0_).bind fun p0 => (dA y1).bind fun c1_ => (dSample c1_).bind fun p1 => G_bbr_Acked cp n p0 p1 (fun r0 r1 => k ⟨.tup [.agg (eCc r0), (tL r1)], [], []⟩)
  | _, _ => none
def ca_reno_ctl_rise {R : Type} (cp : Nat → Nat → Bool) (n : Nat) (av : Fr) (cs : List Fr) (k : Ret2 RW → Option R) : Option R := match av, cs with
  | [y0, y1], [w0] => (dP 16 0 y0).bind fun _ => (dI .i64 y1).bind fun p1 => (dctl w0).bind fun q0 => G_reno_ctl_rise cp n p1 q0 (fun r0 => k ⟨.tup [], [(ectl r0)], []⟩)
  | _, _ => none
def ca_reno_Acked {R : Type} (cp : Nat → Nat → Bool) (n : Nat) (av : Fr) (cs : List Fr) (k : Ret2 RW → Option R) : Option R := match av, cs with
  | [y0, y1, y2], [] => (dA y0).bind fun c0_ => (dCc c0_).bind fun p0 => (dI .i64 y1).bind fun p1 => (dB y2).bind fun p2 => G_reno_Acked cp n p0 p1 p2 (fun r0 r1 => k ⟨.tup [.agg (eCc r0), (tL r1)], [], []⟩)
  | _, _ => none
def ca_cubic_by {R : Type} (cp : Nat → Nat → Bool) (n : Nat) (av : Fr) (cs : List Fr) (k : Ret2 RW → Option R) : Option R := match av, cs with
  | [y0, y1, y2], [] => (dI .i64 y0).bind fun p0 => (dI .i64 y1).bind fun p1 => (dI .i64 y2).bind fun p2 => G_cubic_by cp n p0 p1 p2 (fun r0 => k ⟨(tL r0), [], []⟩)
  | _, _ => none
def ca_seq_Cbrt {R : Type} (cp : Nat → Nat → Bool) (n : Nat) (av : Fr) (cs : List Fr) (k : Ret2 RW → Option R) : Option R := match av, cs with
  | [y0], [] => (dI .i64 y0).bind fun p0 => G_seq_Cbrt cp n p0 (fun r0 => k ⟨(tL r0), [], []⟩)
  | _, _ => none
def ca_cubic_ctl_begin {R : Type} (cp : Nat → Nat → Bool) (n : Nat) (av : Fr) (cs : List Fr) (k : Ret2 RW → Option R) : Option R := match av, cs with
  | [y0, y1], [w0] => (dP 74 0 y0).bind fun _ => (dI .i64 y1).bind fun p1 => (dT85 w0).bind fun q0 => G_cubic_ctl_begin cp n p1 q0 (fun r0 => k ⟨.tup [], [(eT85 r0)], []⟩)
  | _, _ => none
def ca_seq_Sum {R : Type} (cp : Nat → Nat → Bool) (n : Nat) (av : Fr) (cs : List Fr) (k : Ret2 RW → Option R) : Option R := match av, cs with
  | [y0, y1], [] => (dI .i64 y0).bind fun p0 => (dI .i64 y1).bind fun p1 => G_seq_Sum cp n p0 p1 (fun r0 => k ⟨(tL r0), [], []⟩)
  | _, _ => none
def ca_cubic_Curve {R : Type} (cp : Nat → Nat → Bool) (n : Nat) (av : Fr) (cs : List Fr) (k : Ret2 RW → Option R) : Option R := match av, cs with
  | [y0, y1], [] => (dA y0).bind fun c0_ => (dCc c0_).bind fun p0 => (dI .i64 y1).bind fun p1 => G_cubic_Curve cp n p0 p1 (fun r0 => k ⟨(tL r0), [], []⟩)
  | _, _ => none
def ca_cubic_ctl_grow {R : Type} (cp : Nat → Nat → Bool) (n : Nat) (av : Fr) (cs : List Fr) (k : Ret2 RW → Option R) : Option R := match av, cs with
  | [y0, y1, y2, y3], [w0] => (dP 110 0 y0).bind fun _ => (dI .i64 y1).bind fun p1 => (dI .i64 y2).bind fun p2 => (dI .i64 y3).bind fun p3 => (dT85 w0).bind fun q0 => G_cubic_ctl_grow cp n p1 p2 p3 q0 (fun r0 => k ⟨.tup [], [(eT85 r0)], []⟩)
  | _, _ => none
def ca_cubic_Acked {R : Type} (cp : Nat → Nat → Bool) (n : Nat) (av : Fr) (cs : List Fr) (k : Ret2 RW → Option R) : Option R := match av, cs with
  | [y0, y1, y2, y3, y4], [] => (dA y0).bind fun c0_ => (dCc c0_).bind fun p0 => (dI .i64 y1).bind fun p1 => (dI .i64 y2).bind fun p2 => (dI .i64 y3).bind fun p3 => (dB y4).bind fun p4 => G_cubic_Acked cp n p0 p1 p2 p3 p4 (fun r0 r1 => k ⟨.tup [.agg (eCc r0), (tL r1)], [], []⟩)
  | _, _ => none
def ca_cc_Acked {R : Type} (cp : Nat → Nat → Bool) (n : Nat) (av : Fr) (cs : List Fr) (k : Ret2 RW → Option R) : Option R := match av, cs with
  | [y0, y1, y2], [] => (dA y0).bind fun c0_ => (dCc c0_).bind fun p0 => (dA y1).bind fun c1_ => (dSample c1_).bind fun p1 => (dI .i64 y2).bind fun p2 => G_cc_Acked cp n p0 p1 p2 (fun r0 r1 => k ⟨.tup [.agg (eCc r0), (tL r1)], [], []⟩)
  | _, _ => none
def ca_law19_CcStays {R : Type} (cp : Nat → Nat → Bool) (n : Nat) (av : Fr) (cs : List Fr) (k : Ret2 RW → Option R) : Option R := match av, cs with
  | [y0, y1, y2, y3], [] => (dI .i64 y0).bind fun p0 => (dI .i64 y1).bind fun p1 => (dRSample false y2).bind fun p2 => (dRint false y3).bind fun p3 => G_law19_CcStays cp n p0 p1 p2 p3 (fun r0 => k ⟨(tB r0), [], []⟩)
  | _, _ => none
def callP {R : Type} (cp : Nat → Nat → Bool) (n : Nat) (id : Nat) (av : Fr) (cs : List Fr) (k : Ret2 RW → Option R) : Option R := match id with
  | 22 => ca_reno_New cp n av cs k
  | 23 => ca_cubic_New cp n av cs k
  | 24 => ca_bbr_New cp n av cs k
  | 7 => ca_cc_New cp n av cs k
  | 32 => ca_cc_time cp n av cs k
  | 33 => ca_cc_size cp n av cs k
  | 51 => ca_reno_size cp n av cs k
  | 1013 => ca_reno_ctl_plain cp n av cs k
  | 28 => ca_reno_Check cp n av cs k
  | 53 => ca_cubic_size cp n av cs k
  | 29 => ca_cubic_Check cp n av cs k
  | 54 => ca_bbr_within cp n av cs k
  | 92 => ca_filter_may cp n av cs k
  | 93 => ca_filter_beats cp n av cs k
  | 76 => ca_filter_Check cp n av cs k
  | 1018 => ca_bbr_ctl_entries cp n av cs k
  | 30 => ca_bbr_Check cp n av cs k
  | 10 => ca_cc_Check cp n av cs k
  | 31 => ca_cc_asked cp n av cs k
  | 12 => ca_cc_Rest cp n av cs k
  | 37 => ca_bbr_Gain cp n av cs k
  | 81 => ca_filter_Best cp n av cs k
  | 1025 => ca_bbr_ctl_bandwidth cp n av cs k
  | 38 => ca_bbr_Bandwidth cp n av cs k
  | 60 => ca_math_bits_Mul64 cp n av cs k
  | 96 => ca_math_bits_Len64 cp n av cs k
  | 82 => ca_math_bits_LeadingZeros64 cp n av cs k
  | 61 => ca_math_bits_Div64 cp n av cs k
  | 39 => ca_seq_MulDiv cp n av cs k
  | 16 => ca_cc_Pace cp n av cs k
  | 11 => ca_law19_heads cp n av cs k
  | 63 => ca_reno_begun cp n av cs k
  | 43 => ca_reno_Loss cp n av cs k
  | 1037 => ca_cubic_ctl_fall cp n av cs k
  | 1036 => ca_cubic_moved cp n av cs k
  | 44 => ca_cubic_Loss cp n av cs k
  | 18 => ca_cc_Loss cp n av cs k
  | 45 => ca_reno_Timeout cp n av cs k
  | 1042 => ca_cubic_ctl_shut cp n av cs k
  | 1041 => ca_cubic_moved_b cp n av cs k
  | 46 => ca_cubic_Timeout cp n av cs k
  | 47 => ca_bbr_Timeout cp n av cs k
  | 19 => ca_cc_Timeout cp n av cs k
  | 20 => ca_cc_Done cp n av cs k
  | 14 => ca_cc_Limit cp n av cs k
  | 1048 => ca_bbr_ctl_round cp n av cs k
  | 84 => ca_filter_Put cp n av cs k
  | 1049 => ca_bbr_ctl_speed cp n av cs k
  | 1051 => ca_bbr_ctl_shortest cp n av cs k
  | 1052 => ca_bbr_ctl_full cp n av cs k
  | 1054 => ca_bbr_ctl_product cp n av cs k
  | 1055 => ca_bbr_ctl_probe cp n av cs k
  | 1053 => ca_bbr_ctl_cycle cp n av cs k
  | 1056 => ca_bbr_ctl_ask cp n av cs k
  | 87 => ca_seq_Clamp cp n av cs k
  | 1057 => ca_bbr_ctl_window cp n av cs k
  | 48 => ca_bbr_Acked cp n av cs k
  | 1060 => ca_reno_ctl_rise cp n av cs k
  | 49 => ca_reno_Acked cp n av cs k
  | 91 => ca_cubic_by cp n av cs k
  | 97 => ca_seq_Cbrt cp n av cs k
  | 1063 => ca_cubic_ctl_begin cp n av cs k
  | 90 => ca_seq_Sum cp n av cs k
  | 89 => ca_cubic_Curve cp n av cs k
  | 1062 => ca_cubic_ctl_grow cp n av cs k
  | 50 => ca_cubic_Acked cp n av cs k
  | 21 => ca_cc_Acked cp n av cs k
  | 6 => ca_law19_CcStays cp n av cs k
  | _ => none
end
end Go.Proofs.Ytgnoidblkenglaa.M
