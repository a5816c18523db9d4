/- The values of the program's functions, and the functions, plain. -/
import Derived.Test.YtliknmgcnipbkaaMachX
set_option maxRecDepth 100000
set_option linter.unusedVariables false
namespace Go.Proofs.Ytliknmgcnipbkaa.M
open Go
noncomputable section
def str_ : ByteArray := ⟨#[]⟩
def tab256_2793 : ByteArray := ⟨#[0, 1, 2, 2, 3, 3, 3, 3, 4, 4, 4, 4, 4, 4, 4, 4, 5, 5, 5, 5, 5, 5, 5, 5, 5, 5, 5, 5, 5, 5, 5, 5, 6, 6, 6, 6, 6, 6, 6, 6, 6, 6, 6, 6, 6, 6, 6, 6, 6, 6, 6, 6, 6, 6, 6, 6, 6, 6, 6, 6, 6, 6, 6, 6, 7, 7, 7, 7, 7, 7, 7, 7, 7, 7, 7, 7, 7, 7, 7, 7, 7, 7, 7, 7, 7, 7, 7, 7, 7, 7, 7, 7, 7, 7, 7, 7, 7, 7, 7, 7, 7, 7, 7, 7, 7, 7, 7, 7, 7, 7, 7, 7, 7, 7, 7, 7, 7, 7, 7, 7, 7, 7, 7, 7, 7, 7, 7, 7, 8, 8, 8, 8, 8, 8, 8, 8, 8, 8, 8, 8, 8, 8, 8, 8, 8, 8, 8, 8, 8, 8, 8, 8, 8, 8, 8, 8, 8, 8, 8, 8, 8, 8, 8, 8, 8, 8, 8, 8, 8, 8, 8, 8, 8, 8, 8, 8, 8, 8, 8, 8, 8, 8, 8, 8, 8, 8, 8, 8, 8, 8, 8, 8, 8, 8, 8, 8, 8, 8, 8, 8, 8, 8, 8, 8, 8, 8, 8, 8, 8, 8, 8, 8, 8, 8, 8, 8, 8, 8, 8, 8, 8, 8, 8, 8, 8, 8, 8, 8, 8, 8, 8, 8, 8, 8, 8, 8, 8, 8, 8, 8, 8, 8, 8, 8, 8, 8, 8, 8, 8, 8, 8, 8, 8, 8, 8, 8]⟩
structure SEntry where
  xAt : Int
  xV : Int
def zEntry : SEntry := ⟨0, 0⟩
structure SCc where
  xKind : Int
  xMss : Int
  xCwnd : Int
  xSsthresh : Int
  xAcc : Int
  xWmax : Int
  xEpoch : Int
  xK : Int
  xWest : Int
  xStart : Int
  xMode : Int
  xBw : (List SEntry)
  xMinRtt : Int
  xMinAt : Int
  xRound : Int
  xNextAt : Int
  xFull : Int
  xFullN : Int
  xPhase : Int
  xPhaseAt : Int
  xDoneAt : Int
  xPrior : Int
def zCc : SCc := ⟨0, 0, 0, 0, 0, 0, 0, 0, 0, 0, 0, [], 0, 0, 0, 0, 0, 0, 0, 0, 0, 0⟩
structure ST68 where
  xCc_Kind : Int
  xCc_Mss : Int
  xCc_Cwnd : Int
  xCc_Ssthresh : Int
  xCc_Acc : Int
  xCc_Wmax : Int
  xCc_Epoch : Int
  xCc_K : Int
  xCc_West : Int
  xCc_Start : Int
  xCc_Mode : Int
  xCc_Bw : (List SEntry)
  xCc_MinRtt : Int
  xCc_MinAt : Int
  xCc_Round : Int
  xCc_NextAt : Int
  xCc_Full : Int
  xCc_FullN : Int
  xCc_Phase : Int
  xCc_PhaseAt : Int
  xCc_DoneAt : Int
  xCc_Prior : Int
def zT68 : ST68 := ⟨0, 0, 0, 0, 0, 0, 0, 0, 0, 0, 0, [], 0, 0, 0, 0, 0, 0, 0, 0, 0, 0⟩
def zint : Int := 0
structure Sctl where
  xCc_Kind : Int
  xCc_Mss : Int
  xCc_Cwnd : Int
  xCc_Ssthresh : Int
  xCc_Acc : Int
  xCc_Wmax : Int
  xCc_Epoch : Int
  xCc_K : Int
  xCc_West : Int
  xCc_Start : Int
  xCc_Mode : Int
  xCc_Bw : (List SEntry)
  xCc_MinRtt : Int
  xCc_MinAt : Int
  xCc_Round : Int
  xCc_NextAt : Int
  xCc_Full : Int
  xCc_FullN : Int
  xCc_Phase : Int
  xCc_PhaseAt : Int
  xCc_DoneAt : Int
  xCc_Prior : Int
def zctl : Sctl := ⟨0, 0, 0, 0, 0, 0, 0, 0, 0, 0, 0, [], 0, 0, 0, 0, 0, 0, 0, 0, 0, 0⟩
inductive RW where
  | rEntry (xs : List SEntry)
  | rint (xs : List Int)

abbrev Fr := List (TV RW)
abbrev FF := FT RW
def tI (k : IntKind) (n : Int) : TV RW := .sc (.int k n)
def tL (n : Int) : TV RW := .sc (.int .i64 n)
def tB (b : Bool) : TV RW := .sc (.bool b)
def dT : Nat → Fr → Fr
  | 0, l => l
  | n + 1, l => .dead :: dT n l
def dc : Fr := dT 16 []
def eEntry (x : SEntry) : List (TV RW) := [(tL x.xAt), (tL x.xV)]
def eCc (x : SCc) : List (TV RW) := [(tL x.xKind), (tL x.xMss), (tL x.xCwnd), (tL x.xSsthresh), (tL x.xAcc), (tL x.xWmax), (tL x.xEpoch), (tL x.xK), (tL x.xWest), (tL x.xStart), (tL x.xMode), .row false (.rEntry x.xBw), (tL x.xMinRtt), (tL x.xMinAt), (tL x.xRound), (tL x.xNextAt), (tL x.xFull), (tL x.xFullN), (tL x.xPhase), (tL x.xPhaseAt), (tL x.xDoneAt), (tL x.xPrior)]
def eCct (x : SCc) : List (TV RW) := [(tL x.xKind), (tL x.xMss), (tL x.xCwnd), (tL x.xSsthresh), (tL x.xAcc), (tL x.xWmax), (tL x.xEpoch), (tL x.xK), (tL x.xWest), (tL x.xStart), (tL x.xMode), .row true (.rEntry x.xBw), (tL x.xMinRtt), (tL x.xMinAt), (tL x.xRound), (tL x.xNextAt), (tL x.xFull), (tL x.xFullN), (tL x.xPhase), (tL x.xPhaseAt), (tL x.xDoneAt), (tL x.xPrior)]
def eT68 (x : ST68) : List (TV RW) := [(tL x.xCc_Kind), (tL x.xCc_Mss), (tL x.xCc_Cwnd), (tL x.xCc_Ssthresh), (tL x.xCc_Acc), (tL x.xCc_Wmax), (tL x.xCc_Epoch), (tL x.xCc_K), (tL x.xCc_West), (tL x.xCc_Start), (tL x.xCc_Mode), .row false (.rEntry x.xCc_Bw), (tL x.xCc_MinRtt), (tL x.xCc_MinAt), (tL x.xCc_Round), (tL x.xCc_NextAt), (tL x.xCc_Full), (tL x.xCc_FullN), (tL x.xCc_Phase), (tL x.xCc_PhaseAt), (tL x.xCc_DoneAt), (tL x.xCc_Prior)]
def eT68t (x : ST68) : List (TV RW) := [(tL x.xCc_Kind), (tL x.xCc_Mss), (tL x.xCc_Cwnd), (tL x.xCc_Ssthresh), (tL x.xCc_Acc), (tL x.xCc_Wmax), (tL x.xCc_Epoch), (tL x.xCc_K), (tL x.xCc_West), (tL x.xCc_Start), (tL x.xCc_Mode), .row true (.rEntry x.xCc_Bw), (tL x.xCc_MinRtt), (tL x.xCc_MinAt), (tL x.xCc_Round), (tL x.xCc_NextAt), (tL x.xCc_Full), (tL x.xCc_FullN), (tL x.xCc_Phase), (tL x.xCc_PhaseAt), (tL x.xCc_DoneAt), (tL x.xCc_Prior)]
def ectl (x : Sctl) : List (TV RW) := [(tL x.xCc_Kind), (tL x.xCc_Mss), (tL x.xCc_Cwnd), (tL x.xCc_Ssthresh), (tL x.xCc_Acc), (tL x.xCc_Wmax), (tL x.xCc_Epoch), (tL x.xCc_K), (tL x.xCc_West), (tL x.xCc_Start), (tL x.xCc_Mode), .row false (.rEntry x.xCc_Bw), (tL x.xCc_MinRtt), (tL x.xCc_MinAt), (tL x.xCc_Round), (tL x.xCc_NextAt), (tL x.xCc_Full), (tL x.xCc_FullN), (tL x.xCc_Phase), (tL x.xCc_PhaseAt), (tL x.xCc_DoneAt), (tL x.xCc_Prior)]
def ectlt (x : Sctl) : List (TV RW) := [(tL x.xCc_Kind), (tL x.xCc_Mss), (tL x.xCc_Cwnd), (tL x.xCc_Ssthresh), (tL x.xCc_Acc), (tL x.xCc_Wmax), (tL x.xCc_Epoch), (tL x.xCc_K), (tL x.xCc_West), (tL x.xCc_Start), (tL x.xCc_Mode), .row true (.rEntry x.xCc_Bw), (tL x.xCc_MinRtt), (tL x.xCc_MinAt), (tL x.xCc_Round), (tL x.xCc_NextAt), (tL x.xCc_Full), (tL x.xCc_FullN), (tL x.xCc_Phase), (tL x.xCc_PhaseAt), (tL x.xCc_DoneAt), (tL x.xCc_Prior)]
def eint (x : Int) : List (TV RW) := [(tL x)]
def cEntry (x : SEntry) : List AV := [.sc (.int .i64 x.xAt), .sc (.int .i64 x.xV)]
def cint (x : Int) : List AV := [.sc (.int .i64 x)]
def dOne : Fr → Option (TV RW)
  | [x] => some x
  | _ => none
def dI (kd : IntKind) : TV RW → Option Int
  | .sc (.int k a) => cond (decide (k = kd)) (some a) none
  | _ => none
def dB : TV RW → Option Bool
  | .sc (.bool b) => some b
  | _ => none
def dS : TV RW → Option ByteArray
  | .sc (.string b) => some b
  | _ => none
def dA : TV RW → Option Fr
  | .agg cs => some cs
  | _ => none
def dP (h j : Nat) : TV RW → Option Unit
  | .ptr a b => cond (Nat.beq a h && Nat.beq b j) (some ()) none
  | _ => none
def dC (f : Nat) (cs : List (Nat × Nat)) : TV RW → Option Unit
  | .clo a b => cond (Nat.beq a f && decide (b = cs)) (some ()) none
  | _ => none
def dREntry (fl : Bool) : TV RW → Option (List SEntry)
  | .row a (.rEntry xs) => cond (a == fl) (some xs) none
  | _ => none
def dRint (fl : Bool) : TV RW → Option (List Int)
  | .row a (.rint xs) => cond (a == fl) (some xs) none
  | _ => none
def dEntry : Fr → Option SEntry
  | [y0, y1] => (dI .i64 y0).bind fun a0 => (dI .i64 y1).bind fun a1 => some ⟨a0, a1⟩
  | _ => none
def dCc : Fr → Option SCc
  | [y0, y1, y2, y3, y4, y5, y6, y7, y8, y9, y10, y11, y12, y13, y14, y15, y16, y17, y18, y19, y20, y21] => (dI .i64 y0).bind fun a0 => (dI .i64 y1).bind fun a1 => (dI .i64 y2).bind fun a2 => (dI .i64 y3).bind fun a3 => (dI .i64 y4).bind fun a4 => (dI .i64 y5).bind fun a5 => (dI .i64 y6).bind fun a6 => (dI .i64 y7).bind fun a7 => (dI .i64 y8).bind fun a8 => (dI .i64 y9).bind fun a9 => (dI .i64 y10).bind fun a10 => (dREntry false y11).bind fun a11 => (dI .i64 y12).bind fun a12 => (dI .i64 y13).bind fun a13 => (dI .i64 y14).bind fun a14 => (dI .i64 y15).bind fun a15 => (dI .i64 y16).bind fun a16 => (dI .i64 y17).bind fun a17 => (dI .i64 y18).bind fun a18 => (dI .i64 y19).bind fun a19 => (dI .i64 y20).bind fun a20 => (dI .i64 y21).bind fun a21 => some ⟨a0, a1, a2, a3, a4, a5, a6, a7, a8, a9, a10, a11, a12, a13, a14, a15, a16, a17, a18, a19, a20, a21⟩
  | _ => none
def dCct : Fr → Option SCc
  | [y0, y1, y2, y3, y4, y5, y6, y7, y8, y9, y10, y11, y12, y13, y14, y15, y16, y17, y18, y19, y20, y21] => (dI .i64 y0).bind fun a0 => (dI .i64 y1).bind fun a1 => (dI .i64 y2).bind fun a2 => (dI .i64 y3).bind fun a3 => (dI .i64 y4).bind fun a4 => (dI .i64 y5).bind fun a5 => (dI .i64 y6).bind fun a6 => (dI .i64 y7).bind fun a7 => (dI .i64 y8).bind fun a8 => (dI .i64 y9).bind fun a9 => (dI .i64 y10).bind fun a10 => (dREntry true y11).bind fun a11 => (dI .i64 y12).bind fun a12 => (dI .i64 y13).bind fun a13 => (dI .i64 y14).bind fun a14 => (dI .i64 y15).bind fun a15 => (dI .i64 y16).bind fun a16 => (dI .i64 y17).bind fun a17 => (dI .i64 y18).bind fun a18 => (dI .i64 y19).bind fun a19 => (dI .i64 y20).bind fun a20 => (dI .i64 y21).bind fun a21 => some ⟨a0, a1, a2, a3, a4, a5, a6, a7, a8, a9, a10, a11, a12, a13, a14, a15, a16, a17, a18, a19, a20, a21⟩
  | _ => none
def dT68 : Fr → Option ST68
  | [y0, y1, y2, y3, y4, y5, y6, y7, y8, y9, y10, y11, y12, y13, y14, y15, y16, y17, y18, y19, y20, y21] => (dI .i64 y0).bind fun a0 => (dI .i64 y1).bind fun a1 => (dI .i64 y2).bind fun a2 => (dI .i64 y3).bind fun a3 => (dI .i64 y4).bind fun a4 => (dI .i64 y5).bind fun a5 => (dI .i64 y6).bind fun a6 => (dI .i64 y7).bind fun a7 => (dI .i64 y8).bind fun a8 => (dI .i64 y9).bind fun a9 => (dI .i64 y10).bind fun a10 => (dREntry false y11).bind fun a11 => (dI .i64 y12).bind fun a12 => (dI .i64 y13).bind fun a13 => (dI .i64 y14).bind fun a14 => (dI .i64 y15).bind fun a15 => (dI .i64 y16).bind fun a16 => (dI .i64 y17).bind fun a17 => (dI .i64 y18).bind fun a18 => (dI .i64 y19).bind fun a19 => (dI .i64 y20).bind fun a20 => (dI .i64 y21).bind fun a21 => some ⟨a0, a1, a2, a3, a4, a5, a6, a7, a8, a9, a10, a11, a12, a13, a14, a15, a16, a17, a18, a19, a20, a21⟩
  | _ => none
def dT68t : Fr → Option ST68
  | [y0, y1, y2, y3, y4, y5, y6, y7, y8, y9, y10, y11, y12, y13, y14, y15, y16, y17, y18, y19, y20, y21] => (dI .i64 y0).bind fun a0 => (dI .i64 y1).bind fun a1 => (dI .i64 y2).bind fun a2 => (dI .i64 y3).bind fun a3 => (dI .i64 y4).bind fun a4 => (dI .i64 y5).bind fun a5 => (dI .i64 y6).bind fun a6 => (dI .i64 y7).bind fun a7 => (dI .i64 y8).bind fun a8 => (dI .i64 y9).bind fun a9 => (dI .i64 y10).bind fun a10 => (dREntry true y11).bind fun a11 => (dI .i64 y12).bind fun a12 => (dI .i64 y13).bind fun a13 => (dI .i64 y14).bind fun a14 => (dI .i64 y15).bind fun a15 => (dI .i64 y16).bind fun a16 => (dI .i64 y17).bind fun a17 => (dI .i64 y18).bind fun a18 => (dI .i64 y19).bind fun a19 => (dI .i64 y20).bind fun a20 => (dI .i64 y21).bind fun a21 => some ⟨a0, a1, a2, a3, a4, a5, a6, a7, a8, a9, a10, a11, a12, a13, a14, a15, a16, a17, a18, a19, a20, a21⟩
  | _ => none
def dctl : Fr → Option Sctl
  | [y0, y1, y2, y3, y4, y5, y6, y7, y8, y9, y10, y11, y12, y13, y14, y15, y16, y17, y18, y19, y20, y21] => (dI .i64 y0).bind fun a0 => (dI .i64 y1).bind fun a1 => (dI .i64 y2).bind fun a2 => (dI .i64 y3).bind fun a3 => (dI .i64 y4).bind fun a4 => (dI .i64 y5).bind fun a5 => (dI .i64 y6).bind fun a6 => (dI .i64 y7).bind fun a7 => (dI .i64 y8).bind fun a8 => (dI .i64 y9).bind fun a9 => (dI .i64 y10).bind fun a10 => (dREntry false y11).bind fun a11 => (dI .i64 y12).bind fun a12 => (dI .i64 y13).bind fun a13 => (dI .i64 y14).bind fun a14 => (dI .i64 y15).bind fun a15 => (dI .i64 y16).bind fun a16 => (dI .i64 y17).bind fun a17 => (dI .i64 y18).bind fun a18 => (dI .i64 y19).bind fun a19 => (dI .i64 y20).bind fun a20 => (dI .i64 y21).bind fun a21 => some ⟨a0, a1, a2, a3, a4, a5, a6, a7, a8, a9, a10, a11, a12, a13, a14, a15, a16, a17, a18, a19, a20, a21⟩
  | _ => none
def dctlt : Fr → Option Sctl
  | [y0, y1, y2, y3, y4, y5, y6, y7, y8, y9, y10, y11, y12, y13, y14, y15, y16, y17, y18, y19, y20, y21] => (dI .i64 y0).bind fun a0 => (dI .i64 y1).bind fun a1 => (dI .i64 y2).bind fun a2 => (dI .i64 y3).bind fun a3 => (dI .i64 y4).bind fun a4 => (dI .i64 y5).bind fun a5 => (dI .i64 y6).bind fun a6 => (dI .i64 y7).bind fun a7 => (dI .i64 y8).bind fun a8 => (dI .i64 y9).bind fun a9 => (dI .i64 y10).bind fun a10 => (dREntry true y11).bind fun a11 => (dI .i64 y12).bind fun a12 => (dI .i64 y13).bind fun a13 => (dI .i64 y14).bind fun a14 => (dI .i64 y15).bind fun a15 => (dI .i64 y16).bind fun a16 => (dI .i64 y17).bind fun a17 => (dI .i64 y18).bind fun a18 => (dI .i64 y19).bind fun a19 => (dI .i64 y20).bind fun a20 => (dI .i64 y21).bind fun a21 => some ⟨a0, a1, a2, a3, a4, a5, a6, a7, a8, a9, a10, a11, a12, a13, a14, a15, a16, a17, a18, a19, a20, a21⟩
  | _ => none
def pEntry_ : Fr → Option (List SEntry)
  | [] => some []
  | y0 :: y1 :: r => (dI .i64 y0).bind fun a0 => (dI .i64 y1).bind fun a1 => (pEntry_ r).bind fun xs => some (⟨a0, a1⟩ :: xs)
  | _ => none

def pint_ : Fr → Option (List Int)
  | [] => some []
  | y0 :: r => (dI .i64 y0).bind fun a0 => (pint_ r).bind fun xs => some (a0 :: xs)

def U : Uni RW where
  sz := fun r => match r with
    | .rEntry xs => 2
    | .rint xs => 1
  len := fun r => match r with
    | .rEntry xs => xs.length
    | .rint xs => xs.length
  getA := fun r => match r with
    | .rEntry xs => rg cEntry zEntry xs
    | .rint xs => rg cint zint xs
  get := fun r i => match r with
    | .rEntry xs => eEntry (xs.getD i zEntry)
    | .rint xs => eint (xs.getD i zint)
  app := fun r q => match r with
    | .rEntry xs => (match q with
      | .rEntry ys => some (.rEntry (xs ++ ys))
      | _ => none)
    | .rint xs => (match q with
      | .rint ys => some (.rint (xs ++ ys))
      | _ => none)
  sub := fun lo n r => match r with
    | .rEntry xs => .rEntry (List.take n (xs.drop lo))
    | .rint xs => .rint (List.take n (xs.drop lo))
  szt := fun t => match t with
    | 58 => 2
    | 3 => 1
    | _ => 0
  zt := fun t => match t with
    | 58 => eEntry zEntry
    | 3 => eint zint
    | _ => []
  lit := fun t n L => match t with
    | 58 => (pEntry_ L).bind fun xs => cond (Nat.beq xs.length n) (some (.rEntry xs)) none
    | 3 => (pint_ L).bind fun xs => cond (Nat.beq xs.length n) (some (.rint xs)) none
    | _ => none
/-! tideway/reno.size -/
def G_reno_size {R : Type} (cp : Nat → Nat → Bool) : Nat → Int → (Bool → Option R) → Option R
  | 0, _, _ => none
  | n + 1, p0, k =>
    cond (decide (0 ≤ p0)) (k (decide (p0 ≤ 1073741824))) (k false)
/-! (*tideway/reno.ctl).plain -/
def s_reno_ctl_plain_1 {R : Type} (cp : Nat → Nat → Bool) (n : Nat) (q0 : ST68) (kn : Option R) : Option R :=
  kn
def s_reno_ctl_plain_3 {R : Type} (cp : Nat → Nat → Bool) (n : Nat) (q0 : ST68) (kn : Bool → Option R) : Option R :=
  cond (decide (q0.xCc_Wmax = 0)) (cond (decide (q0.xCc_Epoch = 0)) (cond (decide (q0.xCc_K = 0)) (cond (decide (q0.xCc_West = 0)) (cond (decide (q0.xCc_Start = 0)) (cond (decide (q0.xCc_Mode = 0)) (cond (decide ((q0.xCc_Bw.length : Int) = 0)) (cond (decide (q0.xCc_MinRtt = 0)) (cond (decide (q0.xCc_MinAt = 0)) (cond (decide (q0.xCc_Round = 0)) (cond (decide (q0.xCc_NextAt = 0)) (cond (decide (q0.xCc_Full = 0)) (cond (decide (q0.xCc_FullN = 0)) (cond (decide (q0.xCc_Phase = 0)) (cond (decide (q0.xCc_PhaseAt = 0)) (cond (decide (q0.xCc_DoneAt = 0)) (kn (decide (q0.xCc_Prior = 0))) (kn false)) (kn false)) (kn false)) (kn false)) (kn false)) (kn false)) (kn false)) (kn false)) (kn false)) (kn false)) (kn false)) (kn false)) (kn false)) (kn false)) (kn false)) (kn false)
def s_reno_ctl_plain_5 {R : Type} (cp : Nat → Nat → Bool) (n : Nat) (q0 : ST68) (v4 : Bool) (kr : Option R) : Option R :=
  kr
def s_reno_ctl_plain_7 {R : Type} (cp : Nat → Nat → Bool) (n : Nat) (q0 : ST68) (kr : Bool → Option R) : Option R :=
  s_reno_ctl_plain_3 cp n q0 (fun v4 => s_reno_ctl_plain_5 cp n q0 v4 (kr v4))
def s_reno_ctl_plain_9 {R : Type} (cp : Nat → Nat → Bool) (n : Nat) (q0 : ST68) (kr : Bool → Option R) : Option R :=
  s_reno_ctl_plain_1 cp n q0 (s_reno_ctl_plain_7 cp n q0 (fun v5 => (kr v5)))
def G_reno_ctl_plain {R : Type} (cp : Nat → Nat → Bool) : Nat → ST68 → (Bool → ST68 → Option R) → Option R
  | 0, _, _ => none
  | n + 1, q0, k =>
    s_reno_ctl_plain_9 cp n q0 (fun v6 => k v6 q0)
/-! tideway/reno.Check -/
def G_reno_Check {R : Type} (cp : Nat → Nat → Bool) : Nat → SCc → (Int → Option R) → Option R
  | 0, _, _ => none
  | n + 1, p0, k =>
    cond (!decide (p0.xKind = 1)) (k 230) (cond (decide (p0.xMss < 1)) (k 230) (cond (decide (65000 < p0.xMss)) (k 230) (cond (decide (p0.xCwnd < p0.xMss)) (k 230) (G_reno_size cp n p0.xCwnd (fun r1 => cond (!r1) (k 230) (cond (decide (p0.xSsthresh < (wr .i64 (2 * p0.xMss)))) (k 230) (G_reno_size cp n p0.xSsthresh (fun r2 => cond (!r2) (k 230) (G_reno_size cp n p0.xAcc (fun r3 => cond (!r3) (k 230) (G_reno_ctl_plain cp n (ST68.mk p0.xKind p0.xMss p0.xCwnd p0.xSsthresh p0.xAcc p0.xWmax p0.xEpoch p0.xK p0.xWest p0.xStart p0.xMode p0.xBw p0.xMinRtt p0.xMinAt p0.xRound p0.xNextAt p0.xFull p0.xFullN p0.xPhase p0.xPhaseAt p0.xDoneAt p0.xPrior) (fun r7 r8 => cond (!r7) (k 230) (k 0)))))))))))))
/-! tideway/cubic.size -/
def s_cubic_size_1 {R : Type} (cp : Nat → Nat → Bool) (n : Nat) (p0 : (List Int)) (kn : Option R) : Option R :=
  kn
def s_cubic_size_3 {R : Type} (cp : Nat → Nat → Bool) (n : Nat) (p0 : (List Int)) (kn : Int → Option R) : Option R :=
  kn (p0.length : Int)
def s_cubic_size_5 {R : Type} (cp : Nat → Nat → Bool) (n : Nat) (p0 : (List Int)) (v10 v11 : Int) (kn : Int → Option R) (kr : Option R) (ke0 : Option R) : Option R :=
  cond (decide (v11 < v10)) (cond (decide (0 ≤ v11)) (cond (decide (v11 < (p0.length : Int))) (cond (decide ((p0.getD (Int.toNat v11) zint) < 0)) (kr) (cond (decide (1073741824 < (p0.getD (Int.toNat v11) zint))) (kr) (kn (wr .i64 (v11 + 1))))) (none)) (none)) (ke0)
def l_cubic_size_10 {R : Type} (cp : Nat → Nat → Bool) (n : Nat) : Nat → (List Int) → Int → Int → (Option R) → (Option R) → Option R
  | 0, _, _, _, _, _ => none
  | m + 1, p0, v10, v11, kr, ke0 =>
    s_cubic_size_5 cp n p0 v10 v11 (fun v12 => l_cubic_size_10 cp n m p0 v10 v12 kr ke0) kr ke0
def s_cubic_size_11 {R : Type} (cp : Nat → Nat → Bool) (n : Nat) (p0 : (List Int)) (v10 : Int) (kr : Option R) (ke0 : Option R) : Option R :=
  l_cubic_size_10 cp n n p0 v10 0 kr ke0
def s_cubic_size_12 {R : Type} (cp : Nat → Nat → Bool) (n : Nat) (p0 : (List Int)) (v10 : Int) (kn : Option R) (kr : Option R) : Option R :=
  s_cubic_size_11 cp n p0 v10 kr kn
def s_cubic_size_13 {R : Type} (cp : Nat → Nat → Bool) (n : Nat) (p0 : (List Int)) (kn : Option R) (kr : Option R) : Option R :=
  s_cubic_size_3 cp n p0 (fun v10 => s_cubic_size_12 cp n p0 v10 kn kr)
def s_cubic_size_14 {R : Type} (cp : Nat → Nat → Bool) (n : Nat) (kr : Option R) : Option R :=
  kr
def s_cubic_size_17 {R : Type} (cp : Nat → Nat → Bool) (n : Nat) (p0 : (List Int)) (kr : Bool → Option R) : Option R :=
  s_cubic_size_13 cp n p0 (s_cubic_size_14 cp n (kr true)) (kr false)
def s_cubic_size_19 {R : Type} (cp : Nat → Nat → Bool) (n : Nat) (p0 : (List Int)) (kr : Bool → Option R) : Option R :=
  s_cubic_size_1 cp n p0 (s_cubic_size_17 cp n p0 (fun v13 => (kr v13)))
def G_cubic_size {R : Type} (cp : Nat → Nat → Bool) : Nat → (List Int) → (Bool → Option R) → Option R
  | 0, _, _ => none
  | n + 1, p0, k =>
    s_cubic_size_19 cp n p0 (fun v14 => k v14)
/-! tideway/cubic.Check -/
def G_cubic_Check {R : Type} (cp : Nat → Nat → Bool) : Nat → SCc → (Int → Option R) → Option R
  | 0, _, _ => none
  | n + 1, p0, k =>
    cond (!decide (p0.xKind = 2)) (k 230) (G_reno_Check cp n (SCc.mk 1 p0.xMss p0.xCwnd p0.xSsthresh p0.xAcc 0 0 0 0 0 p0.xMode p0.xBw p0.xMinRtt p0.xMinAt p0.xRound p0.xNextAt p0.xFull p0.xFullN p0.xPhase p0.xPhaseAt p0.xDoneAt p0.xPrior) (fun r9 => cond (!decide (r9 = 0)) (k 230) (G_cubic_size cp n [p0.xWmax, p0.xWest, p0.xStart] (fun r15 => cond (!r15) (k 230) (cond (decide (p0.xK < 0)) (k 230) (cond (decide (2097151 < p0.xK)) (k 230) (cond (decide (p0.xEpoch < (-1))) (k 230) (cond (decide (1125899906842624 < p0.xEpoch)) (k 230) (k 0)))))))))
/-! math/bits.Mul64 -/
def G_math_bits_Mul64 {R : Type} (cp : Nat → Nat → Bool) : Nat → Int → Int → (Int → Int → Option R) → Option R
  | 0, _, _, _ => none
  | n + 1, p0, p1, k =>
    k (wr .u64 ((wr .u64 ((wr .u64 ((shr .u64 p0 32) * (shr .u64 p1 32))) + (shr .u64 (wr .u64 ((wr .u64 ((shr .u64 p0 32) * (bits .and .u64 p1 4294967295))) + (shr .u64 (wr .u64 ((bits .and .u64 p0 4294967295) * (bits .and .u64 p1 4294967295))) 32))) 32))) + (shr .u64 (wr .u64 ((bits .and .u64 (wr .u64 ((wr .u64 ((shr .u64 p0 32) * (bits .and .u64 p1 4294967295))) + (shr .u64 (wr .u64 ((bits .and .u64 p0 4294967295) * (bits .and .u64 p1 4294967295))) 32))) 4294967295) + (wr .u64 ((bits .and .u64 p0 4294967295) * (shr .u64 p1 32))))) 32))) (wr .u64 (p0 * p1))
/-! math/bits.Len64 -/
def G_math_bits_Len64 {R : Type} (cp : Nat → Nat → Bool) : Nat → Int → (Int → Option R) → Option R
  | 0, _, _ => none
  | n + 1, p0, k =>
    cond (decide (4294967296 ≤ p0)) (cond (decide (65536 ≤ (shr .u64 p0 32))) (cond (decide (256 ≤ (shr .u64 (shr .u64 p0 32) 16))) (cond (decide (0 ≤ wr .u8 (shr .u64 (shr .u64 (shr .u64 p0 32) 16) 8))) (cond (decide (wr .u8 (shr .u64 (shr .u64 (shr .u64 p0 32) 16) 8) < (ByteArray.size tab256_2793 : Int))) (k (wr .i64 ((wr .i64 ((wr .i64 (32 + 16)) + 8)) + (wr .i64 ((tab256_2793.data.getD (Int.toNat (wr .u8 (shr .u64 (shr .u64 (shr .u64 p0 32) 16) 8))) 0).toNat : Int))))) (none)) (none)) (cond (decide (0 ≤ wr .u8 (shr .u64 (shr .u64 p0 32) 16))) (cond (decide (wr .u8 (shr .u64 (shr .u64 p0 32) 16) < (ByteArray.size tab256_2793 : Int))) (k (wr .i64 ((wr .i64 (32 + 16)) + (wr .i64 ((tab256_2793.data.getD (Int.toNat (wr .u8 (shr .u64 (shr .u64 p0 32) 16))) 0).toNat : Int))))) (none)) (none))) (cond (decide (256 ≤ (shr .u64 p0 32))) (cond (decide (0 ≤ wr .u8 (shr .u64 (shr .u64 p0 32) 8))) (cond (decide (wr .u8 (shr .u64 (shr .u64 p0 32) 8) < (ByteArray.size tab256_2793 : Int))) (k (wr .i64 ((wr .i64 (32 + 8)) + (wr .i64 ((tab256_2793.data.getD (Int.toNat (wr .u8 (shr .u64 (shr .u64 p0 32) 8))) 0).toNat : Int))))) (none)) (none)) (cond (decide (0 ≤ wr .u8 (shr .u64 p0 32))) (cond (decide (wr .u8 (shr .u64 p0 32) < (ByteArray.size tab256_2793 : Int))) (k (wr .i64 (32 + (wr .i64 ((tab256_2793.data.getD (Int.toNat (wr .u8 (shr .u64 p0 32))) 0).toNat : Int))))) (none)) (none)))) (cond (decide (65536 ≤ p0)) (cond (decide (256 ≤ (shr .u64 p0 16))) (cond (decide (0 ≤ wr .u8 (shr .u64 (shr .u64 p0 16) 8))) (cond (decide (wr .u8 (shr .u64 (shr .u64 p0 16) 8) < (ByteArray.size tab256_2793 : Int))) (k (wr .i64 ((wr .i64 ((wr .i64 (0 + 16)) + 8)) + (wr .i64 ((tab256_2793.data.getD (Int.toNat (wr .u8 (shr .u64 (shr .u64 p0 16) 8))) 0).toNat : Int))))) (none)) (none)) (cond (decide (0 ≤ wr .u8 (shr .u64 p0 16))) (cond (decide (wr .u8 (shr .u64 p0 16) < (ByteArray.size tab256_2793 : Int))) (k (wr .i64 ((wr .i64 (0 + 16)) + (wr .i64 ((tab256_2793.data.getD (Int.toNat (wr .u8 (shr .u64 p0 16))) 0).toNat : Int))))) (none)) (none))) (cond (decide (256 ≤ p0)) (cond (decide (0 ≤ wr .u8 (shr .u64 p0 8))) (cond (decide (wr .u8 (shr .u64 p0 8) < (ByteArray.size tab256_2793 : Int))) (k (wr .i64 ((wr .i64 (0 + 8)) + (wr .i64 ((tab256_2793.data.getD (Int.toNat (wr .u8 (shr .u64 p0 8))) 0).toNat : Int))))) (none)) (none)) (cond (decide (0 ≤ wr .u8 p0)) (cond (decide (wr .u8 p0 < (ByteArray.size tab256_2793 : Int))) (k (wr .i64 (0 + (wr .i64 ((tab256_2793.data.getD (Int.toNat (wr .u8 p0)) 0).toNat : Int))))) (none)) (none))))
/-! math/bits.LeadingZeros64 -/
def G_math_bits_LeadingZeros64 {R : Type} (cp : Nat → Nat → Bool) : Nat → Int → (Int → Option R) → Option R
  | 0, _, _ => none
  | n + 1, p0, k =>
    G_math_bits_Len64 cp n p0 (fun r20 => k (wr .i64 (64 - r20)))
/-! math/bits.Div64 -/
def s_math_bits_Div64_1 {R : Type} (cp : Nat → Nat → Bool) (n : Nat) (p0 p1 p2 : Int) (kn : Int → Int → Int → Int → Int → Int → Int → Int → Int → Option R) (kr : Int → Int → Option R) : Option R :=
  cond (decide (p2 = 0)) (none) (cond (decide (p2 ≤ p0)) (none) (cond (decide (p0 = 0)) (cond (decide (p2 = 0)) (none) (cond (decide (p2 = 0)) (none) (kr (wr .u64 (Int.tdiv p1 p2)) (Int.tmod p1 p2)))) (G_math_bits_LeadingZeros64 cp n p2 (fun r30 => cond (decide ((wr .u64 r30) < 0)) (none) (cond (decide ((wr .u64 r30) < 0)) (none) (cond (decide ((wr .u64 (64 - (wr .u64 r30))) < 0)) (none) (cond (decide ((wr .u64 r30) < 0)) (none) (cond (decide ((shr .u64 (shl .u64 p2 (wr .u64 r30)) 32) = 0)) (none) (kn (shl .u64 p2 (wr .u64 r30)) (wr .u64 r30) (shr .u64 (shl .u64 p2 (wr .u64 r30)) 32) (bits .and .u64 (shl .u64 p2 (wr .u64 r30)) 4294967295) (bits .or .u64 (shl .u64 p0 (wr .u64 r30)) (shr .u64 p1 (wr .u64 (64 - (wr .u64 r30))))) (shr .u64 (shl .u64 p1 (wr .u64 r30)) 32) (bits .and .u64 (shl .u64 p1 (wr .u64 r30)) 4294967295) (wr .u64 (Int.tdiv (bits .or .u64 (shl .u64 p0 (wr .u64 r30)) (shr .u64 p1 (wr .u64 (64 - (wr .u64 r30))))) (shr .u64 (shl .u64 p2 (wr .u64 r30)) 32))) (wr .u64 ((bits .or .u64 (shl .u64 p0 (wr .u64 r30)) (shr .u64 p1 (wr .u64 (64 - (wr .u64 r30))))) - (wr .u64 ((wr .u64 (Int.tdiv (bits .or .u64 (shl .u64 p0 (wr .u64 r30)) (shr .u64 p1 (wr .u64 (64 - (wr .u64 r30))))) (shr .u64 (shl .u64 p2 (wr .u64 r30)) 32))) * (shr .u64 (shl .u64 p2 (wr .u64 r30)) 32))))))))))))))
def s_math_bits_Div64_4 {R : Type} (cp : Nat → Nat → Bool) (n : Nat) (v31 v32 v33 v34 v35 v36 v37 v42 v43 : Int) (kn : Int → Int → Option R) (ke0 : Int → Option R) : Option R :=
  cond (decide (4294967296 ≤ v42)) (cond (decide (4294967296 ≤ (wr .u64 (v43 + v33)))) (ke0 (wr .u64 (v42 - 1))) (kn (wr .u64 (v42 - 1)) (wr .u64 (v43 + v33)))) (cond (decide ((wr .u64 ((wr .u64 (4294967296 * v43)) + v36)) < (wr .u64 (v42 * v34)))) (cond (decide (4294967296 ≤ (wr .u64 (v43 + v33)))) (ke0 (wr .u64 (v42 - 1))) (kn (wr .u64 (v42 - 1)) (wr .u64 (v43 + v33)))) (ke0 v42))
def l_math_bits_Div64_9 {R : Type} (cp : Nat → Nat → Bool) (n : Nat) : Nat → Int → Int → Int → Int → Int → Int → Int → Int → Int → (Int → Option R) → Option R
  | 0, _, _, _, _, _, _, _, _, _, _ => none
  | m + 1, v31, v32, v33, v34, v35, v36, v37, v42, v43, ke0 =>
    s_math_bits_Div64_4 cp n v31 v32 v33 v34 v35 v36 v37 v42 v43 (fun v44 v45 => l_math_bits_Div64_9 cp n m v31 v32 v33 v34 v35 v36 v37 v44 v45 ke0) (fun v46 => (ke0 v46))
def s_math_bits_Div64_10 {R : Type} (cp : Nat → Nat → Bool) (n : Nat) (v31 v32 v33 v34 v35 v36 v37 v38 v39 : Int) (ke0 : Int → Option R) : Option R :=
  l_math_bits_Div64_9 cp n n v31 v32 v33 v34 v35 v36 v37 v38 v39 ke0
def s_math_bits_Div64_12 {R : Type} (cp : Nat → Nat → Bool) (n : Nat) (v31 v32 v33 v34 v35 v36 v37 v38 v39 : Int) (kn : Int → Option R) : Option R :=
  s_math_bits_Div64_10 cp n v31 v32 v33 v34 v35 v36 v37 v38 v39 (fun v47 => (kn v47))
def s_math_bits_Div64_13 {R : Type} (cp : Nat → Nat → Bool) (n : Nat) (v31 v32 v33 v34 v35 v36 v37 v48 : Int) (kn : Int → Int → Int → Option R) : Option R :=
  cond (decide (v33 = 0)) (none) (kn (wr .u64 ((wr .u64 ((wr .u64 ((wr .u64 (v35 * 4294967296)) + v36)) - (wr .u64 (v48 * v31)))) - (wr .u64 ((wr .u64 (Int.tdiv (wr .u64 ((wr .u64 ((wr .u64 (v35 * 4294967296)) + v36)) - (wr .u64 (v48 * v31)))) v33)) * v33)))) (wr .u64 ((wr .u64 ((wr .u64 (v35 * 4294967296)) + v36)) - (wr .u64 (v48 * v31)))) (wr .u64 (Int.tdiv (wr .u64 ((wr .u64 ((wr .u64 (v35 * 4294967296)) + v36)) - (wr .u64 (v48 * v31)))) v33)))
def s_math_bits_Div64_15 {R : Type} (cp : Nat → Nat → Bool) (n : Nat) (v31 v32 v33 v34 v37 v48 v50 v52 v53 : Int) (kn : Int → Int → Option R) (ke2 : Int → Option R) : Option R :=
  cond (decide (4294967296 ≤ v53)) (cond (decide (4294967296 ≤ (wr .u64 (v52 + v33)))) (ke2 (wr .u64 (v53 - 1))) (kn (wr .u64 (v52 + v33)) (wr .u64 (v53 - 1)))) (cond (decide ((wr .u64 ((wr .u64 (4294967296 * v52)) + v37)) < (wr .u64 (v53 * v34)))) (cond (decide (4294967296 ≤ (wr .u64 (v52 + v33)))) (ke2 (wr .u64 (v53 - 1))) (kn (wr .u64 (v52 + v33)) (wr .u64 (v53 - 1)))) (ke2 v53))
def l_math_bits_Div64_20 {R : Type} (cp : Nat → Nat → Bool) (n : Nat) : Nat → Int → Int → Int → Int → Int → Int → Int → Int → Int → (Int → Option R) → Option R
  | 0, _, _, _, _, _, _, _, _, _, _ => none
  | m + 1, v31, v32, v33, v34, v37, v48, v50, v52, v53, ke2 =>
    s_math_bits_Div64_15 cp n v31 v32 v33 v34 v37 v48 v50 v52 v53 (fun v54 v55 => l_math_bits_Div64_20 cp n m v31 v32 v33 v34 v37 v48 v50 v54 v55 ke2) (fun v56 => (ke2 v56))
def s_math_bits_Div64_21 {R : Type} (cp : Nat → Nat → Bool) (n : Nat) (v31 v32 v33 v34 v37 v48 v49 v50 v51 : Int) (ke2 : Int → Option R) : Option R :=
  l_math_bits_Div64_20 cp n n v31 v32 v33 v34 v37 v48 v50 v49 v51 ke2
def s_math_bits_Div64_23 {R : Type} (cp : Nat → Nat → Bool) (n : Nat) (v31 v32 v33 v34 v37 v48 v49 v50 v51 : Int) (kn : Int → Option R) : Option R :=
  s_math_bits_Div64_21 cp n v31 v32 v33 v34 v37 v48 v49 v50 v51 (fun v57 => (kn v57))
def s_math_bits_Div64_24 {R : Type} (cp : Nat → Nat → Bool) (n : Nat) (v31 v32 v37 v48 v50 v58 : Int) (kr : Int → Int → Option R) : Option R :=
  cond (decide (v32 < 0)) (none) (kr (wr .u64 ((wr .u64 (v48 * 4294967296)) + v58)) (shr .u64 (wr .u64 ((wr .u64 ((wr .u64 (v50 * 4294967296)) + v37)) - (wr .u64 (v58 * v31)))) v32))
def s_math_bits_Div64_27 {R : Type} (cp : Nat → Nat → Bool) (n : Nat) (v31 v32 v33 v34 v37 v48 v49 v50 v51 : Int) (kr : Int → Int → Option R) : Option R :=
  s_math_bits_Div64_23 cp n v31 v32 v33 v34 v37 v48 v49 v50 v51 (fun v58 => s_math_bits_Div64_24 cp n v31 v32 v37 v48 v50 v58 (fun v59 v60 => (kr v59 v60)))
def s_math_bits_Div64_29 {R : Type} (cp : Nat → Nat → Bool) (n : Nat) (v31 v32 v33 v34 v35 v36 v37 v48 : Int) (kr : Int → Int → Option R) : Option R :=
  s_math_bits_Div64_13 cp n v31 v32 v33 v34 v35 v36 v37 v48 (fun v49 v50 v51 => s_math_bits_Div64_27 cp n v31 v32 v33 v34 v37 v48 v49 v50 v51 (fun v61 v62 => (kr v61 v62)))
def s_math_bits_Div64_31 {R : Type} (cp : Nat → Nat → Bool) (n : Nat) (v31 v32 v33 v34 v35 v36 v37 v38 v39 : Int) (kr : Int → Int → Option R) : Option R :=
  s_math_bits_Div64_12 cp n v31 v32 v33 v34 v35 v36 v37 v38 v39 (fun v48 => s_math_bits_Div64_29 cp n v31 v32 v33 v34 v35 v36 v37 v48 (fun v63 v64 => (kr v63 v64)))
def s_math_bits_Div64_33 {R : Type} (cp : Nat → Nat → Bool) (n : Nat) (p0 p1 p2 : Int) (kr : Int → Int → Option R) : Option R :=
  s_math_bits_Div64_1 cp n p0 p1 p2 (fun v31 v32 v33 v34 v35 v36 v37 v38 v39 => s_math_bits_Div64_31 cp n v31 v32 v33 v34 v35 v36 v37 v38 v39 (fun v65 v66 => (kr v65 v66))) (fun v40 v41 => (kr v40 v41))
def G_math_bits_Div64 {R : Type} (cp : Nat → Nat → Bool) : Nat → Int → Int → Int → (Int → Int → Option R) → Option R
  | 0, _, _, _, _ => none
  | n + 1, p0, p1, p2, k =>
    s_math_bits_Div64_33 cp n p0 p1 p2 (fun v67 v68 => k v67 v68)
/-! tideway/seq.MulDiv -/
def G_seq_MulDiv {R : Type} (cp : Nat → Nat → Bool) : Nat → Int → Int → Int → (Int → Int → Option R) → Option R
  | 0, _, _, _, _ => none
  | n + 1, p0, p1, p2, k =>
    cond (decide (p0 < 0)) (k 0 2) (cond (decide (p1 < 0)) (k 0 2) (cond (decide (p2 ≤ 0)) (k 0 2) (G_math_bits_Mul64 cp n (wr .u64 p0) (wr .u64 p1) (fun r18 r19 => cond (decide ((wr .u64 p2) ≤ r18)) (k 9223372036854775807 0) (G_math_bits_Div64 cp n r18 r19 (wr .u64 p2) (fun r69 r70 => k (wr .i64 (mn r69 9223372036854775807)) 0))))))
/-! tideway/cubic.by -/
def G_cubic_by {R : Type} (cp : Nat → Nat → Bool) : Nat → Int → Int → Int → (Int → Option R) → Option R
  | 0, _, _, _, _ => none
  | n + 1, p0, p1, p2, k =>
    G_seq_MulDiv cp n p0 p1 p2 (fun r71 r72 => k r71)
/-! tideway/seq.Cbrt -/
def s_seq_Cbrt_1 {R : Type} (cp : Nat → Nat → Bool) (n : Nat) (p0 : Int) (kn : Option R) : Option R :=
  kn
def s_seq_Cbrt_3 {R : Type} (cp : Nat → Nat → Bool) (n : Nat) (p0 : Int) (kn : Option R) : Option R :=
  kn
def s_seq_Cbrt_5 {R : Type} (cp : Nat → Nat → Bool) (n : Nat) (p0 v74 v75 : Int) (kn : Int → Int → Option R) (ke0 : Option R) : Option R :=
  cond (decide (v75 < 21)) (cond (decide ((wr .i64 (20 - v75)) < 0)) (none) (cond (decide ((wr .i64 ((wr .i64 ((bits .or .i64 v74 (shl .i64 1 (wr .i64 (20 - v75)))) * (bits .or .i64 v74 (shl .i64 1 (wr .i64 (20 - v75)))))) * (bits .or .i64 v74 (shl .i64 1 (wr .i64 (20 - v75)))))) ≤ p0)) (kn (bits .or .i64 v74 (shl .i64 1 (wr .i64 (20 - v75)))) (wr .i64 (v75 + 1))) (kn v74 (wr .i64 (v75 + 1))))) (ke0)
def l_seq_Cbrt_10 {R : Type} (cp : Nat → Nat → Bool) (n : Nat) : Nat → Int → Int → Int → (Int → Option R) → Option R
  | 0, _, _, _, _ => none
  | m + 1, p0, v74, v75, ke0 =>
    s_seq_Cbrt_5 cp n p0 v74 v75 (fun v76 v77 => l_seq_Cbrt_10 cp n m p0 v76 v77 ke0) (ke0 v74)
def s_seq_Cbrt_11 {R : Type} (cp : Nat → Nat → Bool) (n : Nat) (p0 : Int) (ke0 : Int → Option R) : Option R :=
  l_seq_Cbrt_10 cp n n p0 0 0 ke0
def s_seq_Cbrt_13 {R : Type} (cp : Nat → Nat → Bool) (n : Nat) (p0 : Int) (kn : Int → Option R) : Option R :=
  s_seq_Cbrt_11 cp n p0 (fun v78 => (kn v78))
def s_seq_Cbrt_15 {R : Type} (cp : Nat → Nat → Bool) (n : Nat) (p0 : Int) (kn : Int → Option R) : Option R :=
  s_seq_Cbrt_3 cp n p0 (s_seq_Cbrt_13 cp n p0 (fun v79 => (kn v79)))
def s_seq_Cbrt_16 {R : Type} (cp : Nat → Nat → Bool) (n : Nat) (v80 : Int) (kr : Option R) : Option R :=
  kr
def s_seq_Cbrt_19 {R : Type} (cp : Nat → Nat → Bool) (n : Nat) (p0 : Int) (kr : Int → Option R) : Option R :=
  s_seq_Cbrt_15 cp n p0 (fun v80 => s_seq_Cbrt_16 cp n v80 (kr v80))
def s_seq_Cbrt_21 {R : Type} (cp : Nat → Nat → Bool) (n : Nat) (p0 : Int) (kr : Int → Option R) : Option R :=
  s_seq_Cbrt_1 cp n p0 (s_seq_Cbrt_19 cp n p0 (fun v81 => (kr v81)))
def G_seq_Cbrt {R : Type} (cp : Nat → Nat → Bool) : Nat → Int → (Int → Option R) → Option R
  | 0, _, _ => none
  | n + 1, p0, k =>
    s_seq_Cbrt_21 cp n p0 (fun v82 => k v82)
/-! (*tideway/cubic.ctl).begin -/
def G_cubic_ctl_begin {R : Type} (cp : Nat → Nat → Bool) : Nat → Int → Sctl → (Sctl → Option R) → Option R
  | 0, _, _, _ => none
  | n + 1, p1, q0, k =>
    cond (decide (q0.xCc_Cwnd < q0.xCc_Wmax)) (G_cubic_by cp n (wr .i64 (q0.xCc_Wmax - q0.xCc_Cwnd)) 10000000000 (wr .i64 (4 * q0.xCc_Mss)) (fun r73 => G_seq_Cbrt cp n r73 (fun r83 => k (Sctl.mk q0.xCc_Kind q0.xCc_Mss q0.xCc_Cwnd q0.xCc_Ssthresh q0.xCc_Acc q0.xCc_Wmax p1 r83 q0.xCc_Cwnd q0.xCc_Cwnd q0.xCc_Mode q0.xCc_Bw q0.xCc_MinRtt q0.xCc_MinAt q0.xCc_Round q0.xCc_NextAt q0.xCc_Full q0.xCc_FullN q0.xCc_Phase q0.xCc_PhaseAt q0.xCc_DoneAt q0.xCc_Prior)))) (k (Sctl.mk q0.xCc_Kind q0.xCc_Mss q0.xCc_Cwnd q0.xCc_Ssthresh q0.xCc_Acc q0.xCc_Cwnd p1 0 q0.xCc_Cwnd q0.xCc_Cwnd q0.xCc_Mode q0.xCc_Bw q0.xCc_MinRtt q0.xCc_MinAt q0.xCc_Round q0.xCc_NextAt q0.xCc_Full q0.xCc_FullN q0.xCc_Phase q0.xCc_PhaseAt q0.xCc_DoneAt q0.xCc_Prior))
/-! tideway/seq.Sum -/
def G_seq_Sum {R : Type} (cp : Nat → Nat → Bool) : Nat → Int → Int → (Int → Option R) → Option R
  | 0, _, _, _ => none
  | n + 1, p0, p1, k =>
    cond (decide (0 < p0)) (cond (decide (0 < p1)) (cond (decide ((wr .i64 (p0 + p1)) < 0)) (k 9223372036854775807) (cond (decide (p0 < 0)) (cond (decide (p1 < 0)) (cond (decide (0 ≤ (wr .i64 (p0 + p1)))) (k (-9223372036854775808)) (k (wr .i64 (p0 + p1)))) (k (wr .i64 (p0 + p1)))) (k (wr .i64 (p0 + p1))))) (cond (decide (p0 < 0)) (cond (decide (p1 < 0)) (cond (decide (0 ≤ (wr .i64 (p0 + p1)))) (k (-9223372036854775808)) (k (wr .i64 (p0 + p1)))) (k (wr .i64 (p0 + p1)))) (k (wr .i64 (p0 + p1))))) (cond (decide (p0 < 0)) (cond (decide (p1 < 0)) (cond (decide (0 ≤ (wr .i64 (p0 + p1)))) (k (-9223372036854775808)) (k (wr .i64 (p0 + p1)))) (k (wr .i64 (p0 + p1)))) (k (wr .i64 (p0 + p1))))
/-! tideway/seq.Clamp -/
def G_seq_Clamp {R : Type} (cp : Nat → Nat → Bool) : Nat → Int → Int → Int → (Int → Option R) → Option R
  | 0, _, _, _, _ => none
  | n + 1, p0, p1, p2, k =>
    k (mx p1 (mn p0 p2))
/-! tideway/cubic.Curve -/
def s_cubic_Curve_1 {R : Type} (cp : Nat → Nat → Bool) (n : Nat) (p0 : SCc) (p1 : Int) (kn : Int → Option R) (kr : Option R) : Option R :=
  G_cubic_Check cp n p0 (fun r96 => cond (!decide (r96 = 0)) (kr) (G_seq_Sum cp n p1 (wr .i64 (0 - p0.xK)) (fun r97 => G_seq_Clamp cp n r97 (-1000000) 1000000 (fun r98 => G_cubic_by cp n (wr .i64 ((wr .i64 ((mx r98 (wr .i64 (0 - r98))) * (mx r98 (wr .i64 (0 - r98))))) * (mx r98 (wr .i64 (0 - r98))))) (wr .i64 (4 * p0.xMss)) 10000000000 (fun r99 => cond (decide (r98 < 0)) (kn (wr .i64 (0 - r99))) (kn r99))))))
def s_cubic_Curve_4 {R : Type} (cp : Nat → Nat → Bool) (n : Nat) (p0 : SCc) (v100 : Int) (kr : Int → Option R) : Option R :=
  G_seq_Sum cp n p0.xWmax v100 (fun r101 => G_seq_Clamp cp n r101 0 1073741824 (fun r102 => kr r102))
def s_cubic_Curve_7 {R : Type} (cp : Nat → Nat → Bool) (n : Nat) (p0 : SCc) (p1 : Int) (kr : Int → Option R) : Option R :=
  s_cubic_Curve_1 cp n p0 p1 (fun v100 => s_cubic_Curve_4 cp n p0 v100 (fun v103 => (kr v103))) (kr 0)
def G_cubic_Curve {R : Type} (cp : Nat → Nat → Bool) : Nat → SCc → Int → (Int → Option R) → Option R
  | 0, _, _, _ => none
  | n + 1, p0, p1, k =>
    s_cubic_Curve_7 cp n p0 p1 (fun v104 => k v104)
/-! (*tideway/cubic.ctl).grow -/
def s_cubic_ctl_grow_1 {R : Type} (cp : Nat → Nat → Bool) (n : Nat) (p1 p2 p3 : Int) (q0 : Sctl) (kn : Int → SCc → Option R) : Option R :=
  cond (decide (q0.xCc_Epoch < 0)) (G_cubic_ctl_begin cp n p2 q0 (fun r19 => kn (wr .i64 (Int.tdiv (wr .i64 ((mx 0 (wr .i64 (p2 - r19.xCc_Epoch))) + p3)) 1000)) (SCc.mk r19.xCc_Kind r19.xCc_Mss r19.xCc_Cwnd r19.xCc_Ssthresh r19.xCc_Acc r19.xCc_Wmax r19.xCc_Epoch r19.xCc_K r19.xCc_West r19.xCc_Start r19.xCc_Mode r19.xCc_Bw r19.xCc_MinRtt r19.xCc_MinAt r19.xCc_Round r19.xCc_NextAt r19.xCc_Full r19.xCc_FullN r19.xCc_Phase r19.xCc_PhaseAt r19.xCc_DoneAt r19.xCc_Prior))) (kn (wr .i64 (Int.tdiv (wr .i64 ((mx 0 (wr .i64 (p2 - q0.xCc_Epoch))) + p3)) 1000)) (SCc.mk q0.xCc_Kind q0.xCc_Mss q0.xCc_Cwnd q0.xCc_Ssthresh q0.xCc_Acc q0.xCc_Wmax q0.xCc_Epoch q0.xCc_K q0.xCc_West q0.xCc_Start q0.xCc_Mode q0.xCc_Bw q0.xCc_MinRtt q0.xCc_MinAt q0.xCc_Round q0.xCc_NextAt q0.xCc_Full q0.xCc_FullN q0.xCc_Phase q0.xCc_PhaseAt q0.xCc_DoneAt q0.xCc_Prior))
def s_cubic_ctl_grow_3 {R : Type} (cp : Nat → Nat → Bool) (n : Nat) (p1 v20 : Int) (v21 : SCc) (kn : Int → Int → Option R) : Option R :=
  G_cubic_Curve cp n v21 v20 (fun r24 => G_seq_Clamp cp n r24 v21.xCwnd (wr .i64 (v21.xCwnd + (wr .i64 (Int.tdiv v21.xCwnd 2)))) (fun r25 => G_cubic_by cp n (wr .i64 (529 * v21.xMss)) p1 (wr .i64 (1000 * v21.xCwnd)) (fun r26 => G_seq_Sum cp n v21.xWest r26 (fun r27 => kn r25 (mn 1073741824 r27)))))
def s_cubic_ctl_grow_5 {R : Type} (cp : Nat → Nat → Bool) (n : Nat) (p1 : Int) (v21 : SCc) (v28 v29 : Int) (kn : Int → Option R) : Option R :=
  G_cubic_by cp n (wr .i64 (v28 - v21.xCwnd)) p1 v21.xCwnd (fun r30 => G_seq_Sum cp n v21.xCwnd r30 (fun r31 => kn (mn 1073741824 (mx v29 r31))))
def s_cubic_ctl_grow_8 {R : Type} (cp : Nat → Nat → Bool) (n : Nat) (p1 v20 : Int) (v21 : SCc) (kn : Int → Int → Option R) : Option R :=
  s_cubic_ctl_grow_3 cp n p1 v20 v21 (fun v28 v29 => s_cubic_ctl_grow_5 cp n p1 v21 v28 v29 (fun v32 => (kn v32 v29)))
def s_cubic_ctl_grow_10 {R : Type} (cp : Nat → Nat → Bool) (n : Nat) (p1 p2 p3 : Int) (q0 : Sctl) (kn : SCc → Option R) : Option R :=
  s_cubic_ctl_grow_1 cp n p1 p2 p3 q0 (fun v20 v21 => s_cubic_ctl_grow_8 cp n p1 v20 v21 (fun v33 v34 => (kn (SCc.mk v21.xKind v21.xMss v33 v21.xSsthresh v21.xAcc v21.xWmax v21.xEpoch v21.xK v34 v21.xStart v21.xMode v21.xBw v21.xMinRtt v21.xMinAt v21.xRound v21.xNextAt v21.xFull v21.xFullN v21.xPhase v21.xPhaseAt v21.xDoneAt v21.xPrior))))
def G_cubic_ctl_grow {R : Type} (cp : Nat → Nat → Bool) : Nat → Int → Int → Int → Sctl → (Sctl → Option R) → Option R
  | 0, _, _, _, _, _ => none
  | n + 1, p1, p2, p3, q0, k =>
    s_cubic_ctl_grow_10 cp n p1 p2 p3 q0 (fun v35 => k (Sctl.mk v35.xKind v35.xMss v35.xCwnd v35.xSsthresh v35.xAcc v35.xWmax v35.xEpoch v35.xK v35.xWest v35.xStart v35.xMode v35.xBw v35.xMinRtt v35.xMinAt v35.xRound v35.xNextAt v35.xFull v35.xFullN v35.xPhase v35.xPhaseAt v35.xDoneAt v35.xPrior))
/-! tideway/cubic.Acked -/
def G_cubic_Acked {R : Type} (cp : Nat → Nat → Bool) : Nat → SCc → Int → Int → Int → Bool → (SCc → Int → Option R) → Option R
  | 0, _, _, _, _, _, _ => none
  | n + 1, p0, p1, p2, p3, p4, k =>
    G_cubic_Check cp n p0 (fun r16 => cond (!decide (r16 = 0)) (k (SCc.mk 0 0 0 0 0 0 0 0 0 0 0 [] 0 0 0 0 0 0 0 0 0 0) r16) (G_cubic_size cp n [p1] (fun r17 => cond (!r17) (k (SCc.mk 0 0 0 0 0 0 0 0 0 0 0 [] 0 0 0 0 0 0 0 0 0 0) 2) (cond (decide (p2 < 0)) (k (SCc.mk 0 0 0 0 0 0 0 0 0 0 0 [] 0 0 0 0 0 0 0 0 0 0) 2) (cond (decide (1125899906842624 < p2)) (k (SCc.mk 0 0 0 0 0 0 0 0 0 0 0 [] 0 0 0 0 0 0 0 0 0 0) 2) (cond (decide (p3 < 0)) (k (SCc.mk 0 0 0 0 0 0 0 0 0 0 0 [] 0 0 0 0 0 0 0 0 0 0) 2) (cond (decide (1125899906842624 < p3)) (k (SCc.mk 0 0 0 0 0 0 0 0 0 0 0 [] 0 0 0 0 0 0 0 0 0 0) 2) (cond (p4) (k (SCc.mk p0.xKind p0.xMss p0.xCwnd p0.xSsthresh p0.xAcc p0.xWmax (-1) p0.xK p0.xWest p0.xStart p0.xMode p0.xBw p0.xMinRtt p0.xMinAt p0.xRound p0.xNextAt p0.xFull p0.xFullN p0.xPhase p0.xPhaseAt p0.xDoneAt p0.xPrior) 0) (cond (decide (p0.xCwnd < p0.xSsthresh)) (k (SCc.mk p0.xKind p0.xMss (mn 1073741824 (wr .i64 (p0.xCwnd + (mn p1 p0.xMss)))) p0.xSsthresh p0.xAcc p0.xWmax p0.xEpoch p0.xK p0.xWest p0.xStart p0.xMode p0.xBw p0.xMinRtt p0.xMinAt p0.xRound p0.xNextAt p0.xFull p0.xFullN p0.xPhase p0.xPhaseAt p0.xDoneAt p0.xPrior) 0) (G_cubic_ctl_grow cp n p1 p2 p3 (Sctl.mk p0.xKind p0.xMss p0.xCwnd p0.xSsthresh p0.xAcc p0.xWmax p0.xEpoch p0.xK p0.xWest p0.xStart p0.xMode p0.xBw p0.xMinRtt p0.xMinAt p0.xRound p0.xNextAt p0.xFull p0.xFullN p0.xPhase p0.xPhaseAt p0.xDoneAt p0.xPrior) (fun r36 => k (SCc.mk r36.xCc_Kind r36.xCc_Mss r36.xCc_Cwnd r36.xCc_Ssthresh r36.xCc_Acc r36.xCc_Wmax r36.xCc_Epoch r36.xCc_K r36.xCc_West r36.xCc_Start r36.xCc_Mode r36.xCc_Bw r36.xCc_MinRtt r36.xCc_MinAt r36.xCc_Round r36.xCc_NextAt r36.xCc_Full r36.xCc_FullN r36.xCc_Phase r36.xCc_PhaseAt r36.xCc_DoneAt r36.xCc_Prior) 0)))))))))))
/-! (*tideway/cubic.ctl).fall -/
def G_cubic_ctl_fall {R : Type} (cp : Nat → Nat → Bool) : Nat → Sctl → (Sctl → Option R) → Option R
  | 0, _, _ => none
  | n + 1, q0, k =>
    cond (decide (q0.xCc_Cwnd < q0.xCc_Wmax)) (k (Sctl.mk q0.xCc_Kind q0.xCc_Mss q0.xCc_Cwnd (mx (wr .i64 (2 * q0.xCc_Mss)) (wr .i64 (Int.tdiv (wr .i64 (7 * q0.xCc_Cwnd)) 10))) 0 (wr .i64 (Int.tdiv (wr .i64 (17 * q0.xCc_Cwnd)) 20)) (-1) q0.xCc_K q0.xCc_West q0.xCc_Start q0.xCc_Mode q0.xCc_Bw q0.xCc_MinRtt q0.xCc_MinAt q0.xCc_Round q0.xCc_NextAt q0.xCc_Full q0.xCc_FullN q0.xCc_Phase q0.xCc_PhaseAt q0.xCc_DoneAt q0.xCc_Prior)) (k (Sctl.mk q0.xCc_Kind q0.xCc_Mss q0.xCc_Cwnd (mx (wr .i64 (2 * q0.xCc_Mss)) (wr .i64 (Int.tdiv (wr .i64 (7 * q0.xCc_Cwnd)) 10))) 0 q0.xCc_Cwnd (-1) q0.xCc_K q0.xCc_West q0.xCc_Start q0.xCc_Mode q0.xCc_Bw q0.xCc_MinRtt q0.xCc_MinAt q0.xCc_Round q0.xCc_NextAt q0.xCc_Full q0.xCc_FullN q0.xCc_Phase q0.xCc_PhaseAt q0.xCc_DoneAt q0.xCc_Prior))
/-! tideway/cubic.moved -/
def G_cubic_moved {R : Type} (cp : Nat → Nat → Bool) : Nat → SCc → Int → (SCc → Int → Option R) → Option R
  | 0, _, _, _ => none
  | n + 1, p0, p1, k =>
    G_cubic_Check cp n p0 (fun r39 => cond (!decide (r39 = 0)) (k (SCc.mk 0 0 0 0 0 0 0 0 0 0 0 [] 0 0 0 0 0 0 0 0 0 0) 230) (G_cubic_size cp n [p1] (fun r40 => cond (!r40) (k (SCc.mk 0 0 0 0 0 0 0 0 0 0 0 [] 0 0 0 0 0 0 0 0 0 0) 2) (G_cubic_ctl_fall cp n (Sctl.mk p0.xKind p0.xMss p0.xCwnd p0.xSsthresh p0.xAcc p0.xWmax p0.xEpoch p0.xK p0.xWest p0.xStart p0.xMode p0.xBw p0.xMinRtt p0.xMinAt p0.xRound p0.xNextAt p0.xFull p0.xFullN p0.xPhase p0.xPhaseAt p0.xDoneAt p0.xPrior) (fun r41 => k (SCc.mk r41.xCc_Kind r41.xCc_Mss r41.xCc_Cwnd r41.xCc_Ssthresh r41.xCc_Acc r41.xCc_Wmax r41.xCc_Epoch r41.xCc_K r41.xCc_West r41.xCc_Start r41.xCc_Mode r41.xCc_Bw r41.xCc_MinRtt r41.xCc_MinAt r41.xCc_Round r41.xCc_NextAt r41.xCc_Full r41.xCc_FullN r41.xCc_Phase r41.xCc_PhaseAt r41.xCc_DoneAt r41.xCc_Prior) 0)))))
/-! tideway/cubic.Loss -/
def G_cubic_Loss {R : Type} (cp : Nat → Nat → Bool) : Nat → SCc → Int → (SCc → Int → Option R) → Option R
  | 0, _, _, _ => none
  | n + 1, p0, p1, k =>
    G_cubic_moved cp n p0 p1 (fun r42 r43 => k r42 r43)
/-! tideway/reno.New -/
def G_reno_New {R : Type} (cp : Nat → Nat → Bool) : Nat → Int → Int → (SCc → Int → Option R) → Option R
  | 0, _, _, _ => none
  | n + 1, p0, p1, k =>
    cond (decide (p0 < 1)) (k (SCc.mk 0 0 0 0 0 0 0 0 0 0 0 [] 0 0 0 0 0 0 0 0 0 0) 2) (cond (decide (65000 < p0)) (k (SCc.mk 0 0 0 0 0 0 0 0 0 0 0 [] 0 0 0 0 0 0 0 0 0 0) 2) (cond (decide (p1 < 1)) (k (SCc.mk 0 0 0 0 0 0 0 0 0 0 0 [] 0 0 0 0 0 0 0 0 0 0) 2) (cond (decide (100 < p1)) (k (SCc.mk 0 0 0 0 0 0 0 0 0 0 0 [] 0 0 0 0 0 0 0 0 0 0) 2) (k (SCc.mk 1 p0 (wr .i64 (p0 * p1)) 1073741824 0 0 0 0 0 0 0 [] 0 0 0 0 0 0 0 0 0 0) 0))))
/-! tideway/cubic.New -/
def G_cubic_New {R : Type} (cp : Nat → Nat → Bool) : Nat → Int → Int → (SCc → Int → Option R) → Option R
  | 0, _, _, _ => none
  | n + 1, p0, p1, k =>
    G_reno_New cp n p0 p1 (fun r46 r47 => cond (decide (r47 = 0)) (k (SCc.mk 2 r46.xMss r46.xCwnd r46.xSsthresh r46.xAcc r46.xWmax (-1) r46.xK r46.xWest r46.xStart r46.xMode r46.xBw r46.xMinRtt r46.xMinAt r46.xRound r46.xNextAt r46.xFull r46.xFullN r46.xPhase r46.xPhaseAt r46.xDoneAt r46.xPrior) r47) (k r46 r47))
/-! tideway/tidewaylaw16.heads -/
def s_law16_heads_1 {R : Type} (cp : Nat → Nat → Bool) (n : Nat) (kn : Int → Int → Int → SCc → SCc → Option R) : Option R :=
  G_cubic_Acked cp n (SCc.mk 2 10 70 70 0 100 (-1) 0 0 0 0 [] 0 0 0 0 0 0 0 0 0 0) 10 5 0 false (fun r7 r8 => G_cubic_Loss cp n (SCc.mk 2 10 70 70 0 100 (-1) 0 0 0 0 [] 0 0 0 0 0 0 0 0 0 0) 0 (fun r9 r10 => G_cubic_New cp n 0 1 (fun r11 r12 => kn r8 r10 r12 r7 r9)))
def s_law16_heads_3 {R : Type} (cp : Nat → Nat → Bool) (n : Nat) (v13 v14 v15 : Int) (v16 v17 : SCc) (kr : Bool → Option R) : Option R :=
  cond (decide (v13 = 0)) (cond (decide (v16.xK = 1957)) (cond (decide (v16.xEpoch = 5)) (G_cubic_Curve cp n v16 1957 (fun r18 => cond (decide (r18 = 100)) (G_cubic_Curve cp n v16 0 (fun r19 => cond (decide (r19 = 71)) (cond (decide (v14 = 0)) (cond (decide (v17.xWmax = 59)) (cond (decide (v17.xSsthresh = 49)) (cond (decide (v15 = 2)) (G_cubic_Check cp n (SCc.mk 0 0 0 0 0 0 0 0 0 0 0 [] 0 0 0 0 0 0 0 0 0 0) (fun r20 => kr (decide (r20 = 230)))) (kr false)) (kr false)) (kr false)) (kr false)) (kr false))) (kr false))) (kr false)) (kr false)) (kr false)
def s_law16_heads_6 {R : Type} (cp : Nat → Nat → Bool) (n : Nat) (kr : Bool → Option R) : Option R :=
  s_law16_heads_1 cp n (fun v13 v14 v15 v16 v17 => s_law16_heads_3 cp n v13 v14 v15 v16 v17 (fun v21 => (kr v21)))
def G_law16_heads {R : Type} (cp : Nat → Nat → Bool) : Nat → (Bool → Option R) → Option R
  | 0, _ => none
  | n + 1, k =>
    s_law16_heads_6 cp n (fun v22 => k v22)
/-! (*tideway/cubic.ctl).done -/
def G_cubic_ctl_done {R : Type} (cp : Nat → Nat → Bool) : Nat → Sctl → (Sctl → Option R) → Option R
  | 0, _, _ => none
  | n + 1, q0, k =>
    k (Sctl.mk q0.xCc_Kind q0.xCc_Mss q0.xCc_Ssthresh q0.xCc_Ssthresh q0.xCc_Acc q0.xCc_Wmax q0.xCc_Epoch q0.xCc_K q0.xCc_West q0.xCc_Start q0.xCc_Mode q0.xCc_Bw q0.xCc_MinRtt q0.xCc_MinAt q0.xCc_Round q0.xCc_NextAt q0.xCc_Full q0.xCc_FullN q0.xCc_Phase q0.xCc_PhaseAt q0.xCc_DoneAt q0.xCc_Prior)
/-! tideway/cubic.moved -/
def G_cubic_moved_b {R : Type} (cp : Nat → Nat → Bool) : Nat → SCc → Int → (SCc → Int → Option R) → Option R
  | 0, _, _, _ => none
  | n + 1, p0, p1, k =>
    G_cubic_Check cp n p0 (fun r45 => cond (!decide (r45 = 0)) (k (SCc.mk 0 0 0 0 0 0 0 0 0 0 0 [] 0 0 0 0 0 0 0 0 0 0) 230) (G_cubic_size cp n [p1] (fun r46 => cond (!r46) (k (SCc.mk 0 0 0 0 0 0 0 0 0 0 0 [] 0 0 0 0 0 0 0 0 0 0) 2) (G_cubic_ctl_done cp n (Sctl.mk p0.xKind p0.xMss p0.xCwnd p0.xSsthresh p0.xAcc p0.xWmax p0.xEpoch p0.xK p0.xWest p0.xStart p0.xMode p0.xBw p0.xMinRtt p0.xMinAt p0.xRound p0.xNextAt p0.xFull p0.xFullN p0.xPhase p0.xPhaseAt p0.xDoneAt p0.xPrior) (fun r47 => k (SCc.mk r47.xCc_Kind r47.xCc_Mss r47.xCc_Cwnd r47.xCc_Ssthresh r47.xCc_Acc r47.xCc_Wmax r47.xCc_Epoch r47.xCc_K r47.xCc_West r47.xCc_Start r47.xCc_Mode r47.xCc_Bw r47.xCc_MinRtt r47.xCc_MinAt r47.xCc_Round r47.xCc_NextAt r47.xCc_Full r47.xCc_FullN r47.xCc_Phase r47.xCc_PhaseAt r47.xCc_DoneAt r47.xCc_Prior) 0)))))
/-! tideway/cubic.Done -/
def G_cubic_Done {R : Type} (cp : Nat → Nat → Bool) : Nat → SCc → (SCc → Int → Option R) → Option R
  | 0, _, _ => none
  | n + 1, p0, k =>
    G_cubic_moved_b cp n p0 0 (fun r48 r49 => k r48 r49)
/-! tideway/tidewaylaw16.CubicBack -/
def s_law16_CubicBack_1 {R : Type} (cp : Nat → Nat → Bool) (n : Nat) (p0 : Int) (kn : Int → SCc → Option R) (kr : Bool → Option R) : Option R :=
  cond (decide (p0 < 10)) (G_law16_heads cp n (fun r33 => kr r33)) (cond (decide (1000 < p0)) (G_law16_heads cp n (fun r34 => kr r34)) (G_cubic_New cp n 100 10 (fun r35 r36 => G_cubic_Loss cp n (SCc.mk r35.xKind r35.xMss (wr .i64 (100 * p0)) (wr .i64 (100 * p0)) r35.xAcc r35.xWmax r35.xEpoch r35.xK r35.xWest r35.xStart r35.xMode r35.xBw r35.xMinRtt r35.xMinAt r35.xRound r35.xNextAt r35.xFull r35.xFullN r35.xPhase r35.xPhaseAt r35.xDoneAt r35.xPrior) 0 (fun r37 r38 => kn r38 r37))))
def s_law16_CubicBack_4 {R : Type} (cp : Nat → Nat → Bool) (n : Nat) (p0 v39 : Int) (v40 : SCc) (kn : SCc → Option R) (kr : Option R) : Option R :=
  G_cubic_Done cp n v40 (fun r44 r45 => cond (!decide (v39 = 0)) (kr) (cond (!decide (r45 = 0)) (kr) (cond (!decide (r44.xCwnd = (wr .i64 (70 * p0)))) (kr) (kn r44))))
def s_law16_CubicBack_7 {R : Type} (cp : Nat → Nat → Bool) (n : Nat) (p0 : Int) (v46 : SCc) (kn : Option R) : Option R :=
  kn
def s_law16_CubicBack_9 {R : Type} (cp : Nat → Nat → Bool) (n : Nat) (p0 v47 : Int) (v48 : SCc) (kn : Int → SCc → Option R) (kr : Option R) (ke0 : SCc → Option R) : Option R :=
  cond (decide (v47 ≤ 400)) (G_cubic_Acked cp n v48 v48.xCwnd (wr .i64 (v47 * 100000)) 0 false (fun r49 r50 => cond (!decide (r50 = 0)) (kr) (cond (decide ((wr .i64 (r49.xK + 200)) < (wr .i64 (v47 * 100)))) (ke0 r49) (kn (wr .i64 (v47 + 1)) r49)))) (ke0 v48)
def l_law16_CubicBack_14 {R : Type} (cp : Nat → Nat → Bool) (n : Nat) : Nat → Int → Int → SCc → (Option R) → (SCc → Option R) → Option R
  | 0, _, _, _, _, _ => none
  | m + 1, p0, v47, v48, kr, ke0 =>
    s_law16_CubicBack_9 cp n p0 v47 v48 (fun v51 v52 => l_law16_CubicBack_14 cp n m p0 v51 v52 kr ke0) kr (fun v53 => (ke0 v53))
def s_law16_CubicBack_15 {R : Type} (cp : Nat → Nat → Bool) (n : Nat) (p0 : Int) (v46 : SCc) (kr : Option R) (ke0 : SCc → Option R) : Option R :=
  l_law16_CubicBack_14 cp n n p0 0 v46 kr ke0
def s_law16_CubicBack_17 {R : Type} (cp : Nat → Nat → Bool) (n : Nat) (p0 : Int) (v46 : SCc) (kn : SCc → Option R) (kr : Option R) : Option R :=
  s_law16_CubicBack_15 cp n p0 v46 kr (fun v54 => (kn v54))
def s_law16_CubicBack_19 {R : Type} (cp : Nat → Nat → Bool) (n : Nat) (p0 : Int) (v46 : SCc) (kn : SCc → Option R) (kr : Option R) : Option R :=
  s_law16_CubicBack_7 cp n p0 v46 (s_law16_CubicBack_17 cp n p0 v46 (fun v55 => (kn v55)) kr)
def s_law16_CubicBack_20 {R : Type} (cp : Nat → Nat → Bool) (n : Nat) (p0 : Int) (v56 : SCc) (kr : Bool → Option R) : Option R :=
  cond (decide ((wr .i64 ((wr .i64 (100 * p0)) - 100)) ≤ v56.xCwnd)) (G_law16_heads cp n (fun r57 => kr r57)) (kr false)
def s_law16_CubicBack_23 {R : Type} (cp : Nat → Nat → Bool) (n : Nat) (p0 : Int) (v46 : SCc) (kr : Bool → Option R) : Option R :=
  s_law16_CubicBack_19 cp n p0 v46 (fun v56 => s_law16_CubicBack_20 cp n p0 v56 (fun v58 => (kr v58))) (kr false)
def s_law16_CubicBack_25 {R : Type} (cp : Nat → Nat → Bool) (n : Nat) (p0 v39 : Int) (v40 : SCc) (kr : Bool → Option R) : Option R :=
  s_law16_CubicBack_4 cp n p0 v39 v40 (fun v46 => s_law16_CubicBack_23 cp n p0 v46 (fun v59 => (kr v59))) (kr false)
def s_law16_CubicBack_27 {R : Type} (cp : Nat → Nat → Bool) (n : Nat) (p0 : Int) (kr : Bool → Option R) : Option R :=
  s_law16_CubicBack_1 cp n p0 (fun v39 v40 => s_law16_CubicBack_25 cp n p0 v39 v40 (fun v60 => (kr v60))) (fun v41 => (kr v41))
def G_law16_CubicBack {R : Type} (cp : Nat → Nat → Bool) : Nat → Int → (Bool → Option R) → Option R
  | 0, _, _ => none
  | n + 1, p0, k =>
    s_law16_CubicBack_27 cp n p0 (fun v61 => k v61)
def ca_reno_size {R : Type} (cp : Nat → Nat → Bool) (n : Nat) (av : Fr) (cs : List Fr) (k : Ret2 RW → Option R) : Option R := match av, cs with
  | [y0], [] => (dI .i64 y0).bind fun p0 => G_reno_size cp n p0 (fun r0 => k ⟨(tB r0), []⟩)
  | _, _ => none
def ca_reno_ctl_plain {R : Type} (cp : Nat → Nat → Bool) (n : Nat) (av : Fr) (cs : List Fr) (k : Ret2 RW → Option R) : Option R := match av, cs with
  | [y0], [w0] => (dP 138 0 y0).bind fun _ => (dT68 w0).bind fun q0 => G_reno_ctl_plain cp n q0 (fun r0 r1 => k ⟨(tB r0), [(eT68 r1)]⟩)
  | _, _ => none
def ca_reno_Check {R : Type} (cp : Nat → Nat → Bool) (n : Nat) (av : Fr) (cs : List Fr) (k : Ret2 RW → Option R) : Option R := match av, cs with
  | [y0], [] => (dA y0).bind fun c0_ => (dCc c0_).bind fun p0 => G_reno_Check cp n p0 (fun r0 => k ⟨(tL r0), []⟩)
  | _, _ => none
def ca_cubic_size {R : Type} (cp : Nat → Nat → Bool) (n : Nat) (av : Fr) (cs : List Fr) (k : Ret2 RW → Option R) : Option R := match av, cs with
  | [y0], [] => (dRint false y0).bind fun p0 => G_cubic_size cp n p0 (fun r0 => k ⟨(tB r0), []⟩)
  | _, _ => none
def ca_cubic_Check {R : Type} (cp : Nat → Nat → Bool) (n : Nat) (av : Fr) (cs : List Fr) (k : Ret2 RW → Option R) : Option R := match av, cs with
  | [y0], [] => (dA y0).bind fun c0_ => (dCc c0_).bind fun p0 => G_cubic_Check cp n p0 (fun r0 => k ⟨(tL r0), []⟩)
  | _, _ => none
def ca_math_bits_Mul64 {R : Type} (cp : Nat → Nat → Bool) (n : Nat) (av : Fr) (cs : List Fr) (k : Ret2 RW → Option R) : Option R := match av, cs with
  | [y0, y1], [] => (dI .u64 y0).bind fun p0 => (dI .u64 y1).bind fun p1 => G_math_bits_Mul64 cp n p0 p1 (fun r0 r1 => k ⟨.tup [(tI .u64 r0), (tI .u64 r1)], []⟩)
  | _, _ => none
def ca_math_bits_Len64 {R : Type} (cp : Nat → Nat → Bool) (n : Nat) (av : Fr) (cs : List Fr) (k : Ret2 RW → Option R) : Option R := match av, cs with
  | [y0], [] => (dI .u64 y0).bind fun p0 => G_math_bits_Len64 cp n p0 (fun r0 => k ⟨(tL r0), []⟩)
  | _, _ => none
def ca_math_bits_LeadingZeros64 {R : Type} (cp : Nat → Nat → Bool) (n : Nat) (av : Fr) (cs : List Fr) (k : Ret2 RW → Option R) : Option R := match av, cs with
  | [y0], [] => (dI .u64 y0).bind fun p0 => G_math_bits_LeadingZeros64 cp n p0 (fun r0 => k ⟨(tL r0), []⟩)
  | _, _ => none
def ca_math_bits_Div64 {R : Type} (cp : Nat → Nat → Bool) (n : Nat) (av : Fr) (cs : List Fr) (k : Ret2 RW → Option R) : Option R := match av, cs with
  | [y0, y1, y2], [] => (dI .u64 y0).bind fun p0 => (dI .u64 y1).bind fun p1 => (dI .u64 y2).bind fun p2 => G_math_bits_Div64 cp n p0 p1 p2 (fun r0 r1 => k ⟨.tup [(tI .u64 r0), (tI .u64 r1)], []⟩)
  | _, _ => none
def ca_seq_MulDiv {R : Type} (cp : Nat → Nat → Bool) (n : Nat) (av : Fr) (cs : List Fr) (k : Ret2 RW → Option R) : Option R := match av, cs with
  | [y0, y1, y2], [] => (dI .i64 y0).bind fun p0 => (dI .i64 y1).bind fun p1 => (dI .i64 y2).bind fun p2 => G_seq_MulDiv cp n p0 p1 p2 (fun r0 r1 => k ⟨.tup [(tL r0), (tL r1)], []⟩)
  | _, _ => none
def ca_cubic_by {R : Type} (cp : Nat → Nat → Bool) (n : Nat) (av : Fr) (cs : List Fr) (k : Ret2 RW → Option R) : Option R := match av, cs with
  | [y0, y1, y2], [] => (dI .i64 y0).bind fun p0 => (dI .i64 y1).bind fun p1 => (dI .i64 y2).bind fun p2 => G_cubic_by cp n p0 p1 p2 (fun r0 => k ⟨(tL r0), []⟩)
  | _, _ => none
def ca_seq_Cbrt {R : Type} (cp : Nat → Nat → Bool) (n : Nat) (av : Fr) (cs : List Fr) (k : Ret2 RW → Option R) : Option R := match av, cs with
  | [y0], [] => (dI .i64 y0).bind fun p0 => G_seq_Cbrt cp n p0 (fun r0 => k ⟨(tL r0), []⟩)
  | _, _ => none
def ca_cubic_ctl_begin {R : Type} (cp : Nat → Nat → Bool) (n : Nat) (av : Fr) (cs : List Fr) (k : Ret2 RW → Option R) : Option R := match av, cs with
  | [y0, y1], [w0] => (dP 74 0 y0).bind fun _ => (dI .i64 y1).bind fun p1 => (dctl w0).bind fun q0 => G_cubic_ctl_begin cp n p1 q0 (fun r0 => k ⟨.tup [], [(ectl r0)]⟩)
  | _, _ => none
def ca_seq_Sum {R : Type} (cp : Nat → Nat → Bool) (n : Nat) (av : Fr) (cs : List Fr) (k : Ret2 RW → Option R) : Option R := match av, cs with
  | [y0, y1], [] => (dI .i64 y0).bind fun p0 => (dI .i64 y1).bind fun p1 => G_seq_Sum cp n p0 p1 (fun r0 => k ⟨(tL r0), []⟩)
  | _, _ => none
def ca_seq_Clamp {R : Type} (cp : Nat → Nat → Bool) (n : Nat) (av : Fr) (cs : List Fr) (k : Ret2 RW → Option R) : Option R := match av, cs with
  | [y0, y1, y2], [] => (dI .i64 y0).bind fun p0 => (dI .i64 y1).bind fun p1 => (dI .i64 y2).bind fun p2 => G_seq_Clamp cp n p0 p1 p2 (fun r0 => k ⟨(tL r0), []⟩)
  | _, _ => none
def ca_cubic_Curve {R : Type} (cp : Nat → Nat → Bool) (n : Nat) (av : Fr) (cs : List Fr) (k : Ret2 RW → Option R) : Option R := match av, cs with
  | [y0, y1], [] => (dA y0).bind fun c0_ => (dCc c0_).bind fun p0 => (dI .i64 y1).bind fun p1 => G_cubic_Curve cp n p0 p1 (fun r0 => k ⟨(tL r0), []⟩)
  | _, _ => none
def ca_cubic_ctl_grow {R : Type} (cp : Nat → Nat → Bool) (n : Nat) (av : Fr) (cs : List Fr) (k : Ret2 RW → Option R) : Option R := match av, cs with
  | [y0, y1, y2, y3], [w0] => (dP 110 0 y0).bind fun _ => (dI .i64 y1).bind fun p1 => (dI .i64 y2).bind fun p2 => (dI .i64 y3).bind fun p3 => (dctl w0).bind fun q0 => G_cubic_ctl_grow cp n p1 p2 p3 q0 (fun r0 => k ⟨.tup [], [(ectl r0)]⟩)
  | _, _ => none
def ca_cubic_Acked {R : Type} (cp : Nat → Nat → Bool) (n : Nat) (av : Fr) (cs : List Fr) (k : Ret2 RW → Option R) : Option R := match av, cs with
  | [y0, y1, y2, y3, y4], [] => (dA y0).bind fun c0_ => (dCc c0_).bind fun p0 => (dI .i64 y1).bind fun p1 => (dI .i64 y2).bind fun p2 => (dI .i64 y3).bind fun p3 => (dB y4).bind fun p4 => G_cubic_Acked cp n p0 p1 p2 p3 p4 (fun r0 r1 => k ⟨.tup [.agg (eCc r0), (tL r1)], []⟩)
  | _, _ => none
def ca_cubic_ctl_fall {R : Type} (cp : Nat → Nat → Bool) (n : Nat) (av : Fr) (cs : List Fr) (k : Ret2 RW → Option R) : Option R := match av, cs with
  | [y0], [w0] => (dP 57 0 y0).bind fun _ => (dctl w0).bind fun q0 => G_cubic_ctl_fall cp n q0 (fun r0 => k ⟨.tup [], [(ectl r0)]⟩)
  | _, _ => none
def ca_cubic_moved {R : Type} (cp : Nat → Nat → Bool) (n : Nat) (av : Fr) (cs : List Fr) (k : Ret2 RW → Option R) : Option R := match av, cs with
  | [y0, y1, y2], [] => (dA y0).bind fun c0_ => (dCc c0_).bind fun p0 => (dI .i64 y1).bind fun p1 => (dC 40 [] y2).bind fun _ => G_cubic_moved cp n p0 p1 (fun r0 r1 => k ⟨.tup [.agg (eCc r0), (tL r1)], []⟩)
  | _, _ => none
def ca_cubic_Loss {R : Type} (cp : Nat → Nat → Bool) (n : Nat) (av : Fr) (cs : List Fr) (k : Ret2 RW → Option R) : Option R := match av, cs with
  | [y0, y1], [] => (dA y0).bind fun c0_ => (dCc c0_).bind fun p0 => (dI .i64 y1).bind fun p1 => G_cubic_Loss cp n p0 p1 (fun r0 r1 => k ⟨.tup [.agg (eCc r0), (tL r1)], []⟩)
  | _, _ => none
def ca_reno_New {R : Type} (cp : Nat → Nat → Bool) (n : Nat) (av : Fr) (cs : List Fr) (k : Ret2 RW → Option R) : Option R := match av, cs with
  | [y0, y1], [] => (dI .i64 y0).bind fun p0 => (dI .i64 y1).bind fun p1 => G_reno_New cp n p0 p1 (fun r0 r1 => k ⟨.tup [.agg (eCc r0), (tL r1)], []⟩)
  | _, _ => none
def ca_cubic_New {R : Type} (cp : Nat → Nat → Bool) (n : Nat) (av : Fr) (cs : List Fr) (k : Ret2 RW → Option R) : Option R := match av, cs with
  | [y0, y1], [] => (dI .i64 y0).bind fun p0 => (dI .i64 y1).bind fun p1 => G_cubic_New cp n p0 p1 (fun r0 r1 => k ⟨.tup [.agg (eCc r0), (tL r1)], []⟩)
  | _, _ => none
def ca_law16_heads {R : Type} (cp : Nat → Nat → Bool) (n : Nat) (av : Fr) (cs : List Fr) (k : Ret2 RW → Option R) : Option R := match av, cs with
  | [], [] => G_law16_heads cp n (fun r0 => k ⟨(tB r0), []⟩)
  | _, _ => none
def ca_cubic_ctl_done {R : Type} (cp : Nat → Nat → Bool) (n : Nat) (av : Fr) (cs : List Fr) (k : Ret2 RW → Option R) : Option R := match av, cs with
  | [y0], [w0] => (dP 11 0 y0).bind fun _ => (dctl w0).bind fun q0 => G_cubic_ctl_done cp n q0 (fun r0 => k ⟨.tup [], [(ectl r0)]⟩)
  | _, _ => none
def ca_cubic_moved_b {R : Type} (cp : Nat → Nat → Bool) (n : Nat) (av : Fr) (cs : List Fr) (k : Ret2 RW → Option R) : Option R := match av, cs with
  | [y0, y1, y2], [] => (dA y0).bind fun c0_ => (dCc c0_).bind fun p0 => (dI .i64 y1).bind fun p1 => (dC 41 [] y2).bind fun _ => G_cubic_moved_b cp n p0 p1 (fun r0 r1 => k ⟨.tup [.agg (eCc r0), (tL r1)], []⟩)
  | _, _ => none
def ca_cubic_Done {R : Type} (cp : Nat → Nat → Bool) (n : Nat) (av : Fr) (cs : List Fr) (k : Ret2 RW → Option R) : Option R := match av, cs with
  | [y0], [] => (dA y0).bind fun c0_ => (dCc c0_).bind fun p0 => G_cubic_Done cp n p0 (fun r0 r1 => k ⟨.tup [.agg (eCc r0), (tL r1)], []⟩)
  | _, _ => none
def ca_law16_CubicBack {R : Type} (cp : Nat → Nat → Bool) (n : Nat) (av : Fr) (cs : List Fr) (k : Ret2 RW → Option R) : Option R := match av, cs with
  | [y0], [] => (dI .i64 y0).bind fun p0 => G_law16_CubicBack cp n p0 (fun r0 => k ⟨(tB r0), []⟩)
  | _, _ => none
def callP {R : Type} (cp : Nat → Nat → Bool) (n : Nat) (id : Nat) (av : Fr) (cs : List Fr) (k : Ret2 RW → Option R) : Option R := match id with
  | 45 => ca_reno_size cp n av cs k
  | 1006 => ca_reno_ctl_plain cp n av cs k
  | 32 => ca_reno_Check cp n av cs k
  | 24 => ca_cubic_size cp n av cs k
  | 11 => ca_cubic_Check cp n av cs k
  | 49 => ca_math_bits_Mul64 cp n av cs k
  | 52 => ca_math_bits_Len64 cp n av cs k
  | 51 => ca_math_bits_LeadingZeros64 cp n av cs k
  | 50 => ca_math_bits_Div64 cp n av cs k
  | 47 => ca_seq_MulDiv cp n av cs k
  | 37 => ca_cubic_by cp n av cs k
  | 48 => ca_seq_Cbrt cp n av cs k
  | 1009 => ca_cubic_ctl_begin cp n av cs k
  | 36 => ca_seq_Sum cp n av cs k
  | 35 => ca_seq_Clamp cp n av cs k
  | 13 => ca_cubic_Curve cp n av cs k
  | 1008 => ca_cubic_ctl_grow cp n av cs k
  | 8 => ca_cubic_Acked cp n av cs k
  | 1022 => ca_cubic_ctl_fall cp n av cs k
  | 1021 => ca_cubic_moved cp n av cs k
  | 17 => ca_cubic_Loss cp n av cs k
  | 38 => ca_reno_New cp n av cs k
  | 16 => ca_cubic_New cp n av cs k
  | 15 => ca_law16_heads cp n av cs k
  | 1027 => ca_cubic_ctl_done cp n av cs k
  | 1026 => ca_cubic_moved_b cp n av cs k
  | 18 => ca_cubic_Done cp n av cs k
  | 6 => ca_law16_CubicBack cp n av cs k
  | _ => none
end
end Go.Proofs.Ytliknmgcnipbkaa.M
