/- The values of the program's functions, and the functions, plain. -/
import Derived.Test.YtliknmgcnipbkaaMachX
set_option maxRecDepth 100000
set_option linter.unusedVariables false
namespace Go.Proofs.Ytliknmgcnipbkaa.M
open Go
noncomputable section
def str_ : ByteArray := ⟨#[]⟩
def tab256_2793 : ByteArray := ⟨#[0, 1, 2, 2, 3, 3, 3, 3, 4, 4, 4, 4, 4, 4, 4, 4, 5, 5, 5, 5, 5, 5, 5, 5, 5, 5, 5, 5, 5, 5, 5, 5, 6, 6, 6, 6, 6, 6, 6, 6, 6, 6, 6, 6, 6, 6, 6, 6, 6, 6, 6, 6, 6, 6, 6, 6, 6, 6, 6, 6, 6, 6, 6, 6, 7, 7, 7, 7, 7, 7, 7, 7, 7, 7, 7, 7, 7, 7, 7, 7, 7, 7, 7, 7, 7, 7, 7, 7, 7, 7, 7, 7, 7, 7, 7, 7, 7, 7, 7, 7, 7, 7, 7, 7, 7, 7, 7, 7, 7, 7, 7, 7, 7, 7, 7, 7, 7, 7, 7, 7, 7, 7, 7, 7, 7, 7, 7, 7, 8, 8, 8, 8, 8, 8, 8, 8, 8, 8, 8, 8, 8, 8, 8, 8, 8, 8, 8, 8, 8, 8, 8, 8, 8, 8, 8, 8, 8, 8, 8, 8, 8, 8, 8, 8, 8, 8, 8, 8, 8, 8, 8, 8, 8, 8, 8, 8, 8, 8, 8, 8, 8, 8, 8, 8, 8, 8, 8, 8, 8, 8, 8, 8, 8, 8, 8, 8, 8, 8, 8, 8, 8, 8, 8, 8, 8, 8, 8, 8, 8, 8, 8, 8, 8, 8, 8, 8, 8, 8, 8, 8, 8, 8, 8, 8, 8, 8, 8, 8, 8, 8, 8, 8, 8, 8, 8, 8, 8, 8, 8, 8, 8, 8, 8, 8, 8, 8, 8, 8, 8, 8, 8, 8, 8, 8, 8, 8]⟩
structure SEntry where
  xAt : Int
  xV : Int
def zEntry : SEntry := ⟨0, 0⟩
structure SCc where
  xKind : Int
  xMss : Int
  xCwnd : Int
  xSsthresh : Int
  xAcc : Int
  xWmax : Int
  xEpoch : Int
  xK : Int
  xWest : Int
  xStart : Int
  xMode : Int
  xBw : (List SEntry)
  xMinRtt : Int
  xMinAt : Int
  xRound : Int
  xNextAt : Int
  xFull : Int
  xFullN : Int
  xPhase : Int
  xPhaseAt : Int
  xDoneAt : Int
  xPrior : Int
def zCc : SCc := ⟨0, 0, 0, 0, 0, 0, 0, 0, 0, 0, 0, [], 0, 0, 0, 0, 0, 0, 0, 0, 0, 0⟩
structure ST68 where
  xCc_Kind : Int
  xCc_Mss : Int
  xCc_Cwnd : Int
  xCc_Ssthresh : Int
  xCc_Acc : Int
  xCc_Wmax : Int
  xCc_Epoch : Int
  xCc_K : Int
  xCc_West : Int
  xCc_Start : Int
  xCc_Mode : Int
  xCc_Bw : (List SEntry)
  xCc_MinRtt : Int
  xCc_MinAt : Int
  xCc_Round : Int
  xCc_NextAt : Int
  xCc_Full : Int
  xCc_FullN : Int
  xCc_Phase : Int
  xCc_PhaseAt : Int
  xCc_DoneAt : Int
  xCc_Prior : Int
def zT68 : ST68 := ⟨0, 0, 0, 0, 0, 0, 0, 0, 0, 0, 0, [], 0, 0, 0, 0, 0, 0, 0, 0, 0, 0⟩
def zint : Int := 0
structure Sctl where
  xCc_Kind : Int
  xCc_Mss : Int
  xCc_Cwnd : Int
  xCc_Ssthresh : Int
  xCc_Acc : Int
  xCc_Wmax : Int
  xCc_Epoch : Int
  xCc_K : Int
  xCc_West : Int
  xCc_Start : Int
  xCc_Mode : Int
  xCc_Bw : (List SEntry)
  xCc_MinRtt : Int
  xCc_MinAt : Int
  xCc_Round : Int
  xCc_NextAt : Int
  xCc_Full : Int
  xCc_FullN : Int
  xCc_Phase : Int
  xCc_PhaseAt : Int
  xCc_DoneAt : Int
  xCc_Prior : Int
def zctl : Sctl := ⟨0, 0, 0, 0, 0, 0, 0, 0, 0, 0, 0, [], 0, 0, 0, 0, 0, 0, 0, 0, 0, 0⟩
inductive RW where
  | rEntry (xs : List SEntry)
  | rint (xs : List Int)

abbrev Fr := List (TV RW)
abbrev FF := FT RW
def tI (k : IntKind) (n : Int) : TV RW := .sc (.int k n)
def tL (n : Int) : TV RW := .sc (.int .i64 n)
def tB (b : Bool) : TV RW := .sc (.bool b)
def dT : Nat → Fr → Fr
  | 0, l => l
  | n + 1, l => .dead :: dT n l
def dc : Fr := dT 16 []
def eCc (x : SCc) : List (TV RW) := [(tL x.xKind), (tL x.xMss), (tL x.xCwnd), (tL x.xSsthresh), (tL x.xAcc), (tL x.xWmax), (tL x.xEpoch), (tL x.xK), (tL x.xWest), (tL x.xStart), (tL x.xMode), .row false (.rEntry x.xBw), (tL x.xMinRtt), (tL x.xMinAt), (tL x.xRound), (tL x.xNextAt), (tL x.xFull), (tL x.xFullN), (tL x.xPhase), (tL x.xPhaseAt), (tL x.xDoneAt), (tL x.xPrior)]
def eCct (x : SCc) : List (TV RW) := [(tL x.xKind), (tL x.xMss), (tL x.xCwnd), (tL x.xSsthresh), (tL x.xAcc), (tL x.xWmax), (tL x.xEpoch), (tL x.xK), (tL x.xWest), (tL x.xStart), (tL x.xMode), .row true (.rEntry x.xBw), (tL x.xMinRtt), (tL x.xMinAt), (tL x.xRound), (tL x.xNextAt), (tL x.xFull), (tL x.xFullN), (tL x.xPhase), (tL x.xPhaseAt), (tL x.xDoneAt), (tL x.xPrior)]
def eEntry (x : SEntry) : List (TV RW) := [(tL x.xAt), (tL x.xV)]
def eT68 (x : ST68) : List (TV RW) := [(tL x.xCc_Kind), (tL x.xCc_Mss), (tL x.xCc_Cwnd), (tL x.xCc_Ssthresh), (tL x.xCc_Acc), (tL x.xCc_Wmax), (tL x.xCc_Epoch), (tL x.xCc_K), (tL x.xCc_West), (tL x.xCc_Start), (tL x.xCc_Mode), .row false (.rEntry x.xCc_Bw), (tL x.xCc_MinRtt), (tL x.xCc_MinAt), (tL x.xCc_Round), (tL x.xCc_NextAt), (tL x.xCc_Full), (tL x.xCc_FullN), (tL x.xCc_Phase), (tL x.xCc_PhaseAt), (tL x.xCc_DoneAt), (tL x.xCc_Prior)]
def eT68t (x : ST68) : List (TV RW) := [(tL x.xCc_Kind), (tL x.xCc_Mss), (tL x.xCc_Cwnd), (tL x.xCc_Ssthresh), (tL x.xCc_Acc), (tL x.xCc_Wmax), (tL x.xCc_Epoch), (tL x.xCc_K), (tL x.xCc_West), (tL x.xCc_Start), (tL x.xCc_Mode), .row true (.rEntry x.xCc_Bw), (tL x.xCc_MinRtt), (tL x.xCc_MinAt), (tL x.xCc_Round), (tL x.xCc_NextAt), (tL x.xCc_Full), (tL x.xCc_FullN), (tL x.xCc_Phase), (tL x.xCc_PhaseAt), (tL x.xCc_DoneAt), (tL x.xCc_Prior)]
def ectl (x : Sctl) : List (TV RW) := [(tL x.xCc_Kind), (tL x.xCc_Mss), (tL x.xCc_Cwnd), (tL x.xCc_Ssthresh), (tL x.xCc_Acc), (tL x.xCc_Wmax), (tL x.xCc_Epoch), (tL x.xCc_K), (tL x.xCc_West), (tL x.xCc_Start), (tL x.xCc_Mode), .row false (.rEntry x.xCc_Bw), (tL x.xCc_MinRtt), (tL x.xCc_MinAt), (tL x.xCc_Round), (tL x.xCc_NextAt), (tL x.xCc_Full), (tL x.xCc_FullN), (tL x.xCc_Phase), (tL x.xCc_PhaseAt), (tL x.xCc_DoneAt), (tL x.xCc_Prior)]
def ectlt (x : Sctl) : List (TV RW) := [(tL x.xCc_Kind), (tL x.xCc_Mss), (tL x.xCc_Cwnd), (tL x.xCc_Ssthresh), (tL x.xCc_Acc), (tL x.xCc_Wmax), (tL x.xCc_Epoch), (tL x.xCc_K), (tL x.xCc_West), (tL x.xCc_Start), (tL x.xCc_Mode), .row true (.rEntry x.xCc_Bw), (tL x.xCc_MinRtt), (tL x.xCc_MinAt), (tL x.xCc_Round), (tL x.xCc_NextAt), (tL x.xCc_Full), (tL x.xCc_FullN), (tL x.xCc_Phase), (tL x.xCc_PhaseAt), (tL x.xCc_DoneAt), (tL x.xCc_Prior)]
def eint (x : Int) : List (TV RW) := [(tL x)]
def cEntry (x : SEntry) : List AV := [.sc (.int .i64 x.xAt), .sc (.int .i64 x.xV)]
def cint (x : Int) : List AV := [.sc (.int .i64 x)]
def dOne : Fr → Option (TV RW)
  | [x] => some x
  | _ => none
def dI (kd : IntKind) : TV RW → Option Int
  | .sc (.int k a) => cond (decide (k = kd)) (some a) none
  | _ => none
def dB : TV RW → Option Bool
  | .sc (.bool b) => some b
  | _ => none
def dS : TV RW → Option ByteArray
  | .sc (.string b) => some b
  | _ => none
def dA : TV RW → Option Fr
  | .agg cs => some cs
  | _ => none
def dP (h j : Nat) : TV RW → Option Unit
  | .ptr a b => cond (Nat.beq a h && Nat.beq b j) (some ()) none
  | _ => none
def dC (f : Nat) (cs : List (Nat × Nat)) : TV RW → Option Unit
  | .clo a b => cond (Nat.beq a f && decide (b = cs)) (some ()) none
  | _ => none
def dREntry (fl : Bool) : TV RW → Option (List SEntry)
  | .row a (.rEntry xs) => cond (a == fl) (some xs) none
  | _ => none
def dRint (fl : Bool) : TV RW → Option (List Int)
  | .row a (.rint xs) => cond (a == fl) (some xs) none
  | _ => none
def dCc : Fr → Option SCc
  | [y0, y1, y2, y3, y4, y5, y6, y7, y8, y9, y10, y11, y12, y13, y14, y15, y16, y17, y18, y19, y20, y21] => (dI .i64 y0).bind fun a0 => (dI .i64 y1).bind fun a1 => (dI .i64 y2).bind fun a2 => (dI .i64 y3).bind fun a3 => (dI .i64 y4).bind fun a4 => (dI .i64 y5).bind fun a5 => (dI .i64 y6).bind fun a6 => (dI .i64 y7).bind fun a7 => (dI .i64 y8).bind fun a8 => (dI .i64 y9).bind fun a9 => (dI .i64 y10).bind fun a10 => (dREntry false y11).bind fun a11 => (dI .i64 y12).bind fun a12 => (dI .i64 y13).bind fun a13 => (dI .i64 y14).bind fun a14 => (dI .i64 y15).bind fun a15 => (dI .i64 y16).bind fun a16 => (dI .i64 y17).bind fun a17 => (dI .i64 y18).bind fun a18 => (dI .i64 y19).bind fun a19 => (dI .i64 y20).bind fun a20 => (dI .i64 y21).bind fun a21 => some ⟨a0, a1, a2, a3, a4, a5, a6, a7, a8, a9, a10, a11, a12, a13, a14, a15, a16, a17, a18, a19, a20, a21⟩
  | _ => none
def dCct : Fr → Option SCc
  | [y0, y1, y2, y3, y4, y5, y6, y7, y8, y9, y10, y11, y12, y13, y14, y15, y16, y17, y18, y19, y20, y21] => (dI .i64 y0).bind fun a0 => (dI .i64 y1).bind fun a1 => (dI .i64 y2).bind fun a2 => (dI .i64 y3).bind fun a3 => (dI .i64 y4).bind fun a4 => (dI .i64 y5).bind fun a5 => (dI .i64 y6).bind fun a6 => (dI .i64 y7).bind fun a7 => (dI .i64 y8).bind fun a8 => (dI .i64 y9).bind fun a9 => (dI .i64 y10).bind fun a10 => (dREntry true y11).bind fun a11 => (dI .i64 y12).bind fun a12 => (dI .i64 y13).bind fun a13 => (dI .i64 y14).bind fun a14 => (dI .i64 y15).bind fun a15 => (dI .i64 y16).bind fun a16 => (dI .i64 y17).bind fun a17 => (dI .i64 y18).bind fun a18 => (dI .i64 y19).bind fun a19 => (dI .i64 y20).bind fun a20 => (dI .i64 y21).bind fun a21 => some ⟨a0, a1, a2, a3, a4, a5, a6, a7, a8, a9, a10, a11, a12, a13, a14, a15, a16, a17, a18, a19, a20, a21⟩
  | _ => none
def dEntry : Fr → Option SEntry
  | [y0, y1] => (dI .i64 y0).bind fun a0 => (dI .i64 y1).bind fun a1 => some ⟨a0, a1⟩
  | _ => none
def dT68 : Fr → Option ST68
  | [y0, y1, y2, y3, y4, y5, y6, y7, y8, y9, y10, y11, y12, y13, y14, y15, y16, y17, y18, y19, y20, y21] => (dI .i64 y0).bind fun a0 => (dI .i64 y1).bind fun a1 => (dI .i64 y2).bind fun a2 => (dI .i64 y3).bind fun a3 => (dI .i64 y4).bind fun a4 => (dI .i64 y5).bind fun a5 => (dI .i64 y6).bind fun a6 => (dI .i64 y7).bind fun a7 => (dI .i64 y8).bind fun a8 => (dI .i64 y9).bind fun a9 => (dI .i64 y10).bind fun a10 => (dREntry false y11).bind fun a11 => (dI .i64 y12).bind fun a12 => (dI .i64 y13).bind fun a13 => (dI .i64 y14).bind fun a14 => (dI .i64 y15).bind fun a15 => (dI .i64 y16).bind fun a16 => (dI .i64 y17).bind fun a17 => (dI .i64 y18).bind fun a18 => (dI .i64 y19).bind fun a19 => (dI .i64 y20).bind fun a20 => (dI .i64 y21).bind fun a21 => some ⟨a0, a1, a2, a3, a4, a5, a6, a7, a8, a9, a10, a11, a12, a13, a14, a15, a16, a17, a18, a19, a20, a21⟩
  | _ => none
def dT68t : Fr → Option ST68
  | [y0, y1, y2, y3, y4, y5, y6, y7, y8, y9, y10, y11, y12, y13, y14, y15, y16, y17, y18, y19, y20, y21] => (dI .i64 y0).bind fun a0 => (dI .i64 y1).bind fun a1 => (dI .i64 y2).bind fun a2 => (dI .i64 y3).bind fun a3 => (dI .i64 y4).bind fun a4 => (dI .i64 y5).bind fun a5 => (dI .i64 y6).bind fun a6 => (dI .i64 y7).bind fun a7 => (dI .i64 y8).bind fun a8 => (dI .i64 y9).bind fun a9 => (dI .i64 y10).bind fun a10 => (dREntry true y11).bind fun a11 => (dI .i64 y12).bind fun a12 => (dI .i64 y13).bind fun a13 => (dI .i64 y14).bind fun a14 => (dI .i64 y15).bind fun a15 => (dI .i64 y16).bind fun a16 => (dI .i64 y17).bind fun a17 => (dI .i64 y18).bind fun a18 => (dI .i64 y19).bind fun a19 => (dI .i64 y20).bind fun a20 => (dI .i64 y21).bind fun a21 => some ⟨a0, a1, a2, a3, a4, a5, a6, a7, a8, a9, a10, a11, a12, a13, a14, a15, a16, a17, a18, a19, a20, a21⟩
  | _ => none
def dctl : Fr → Option Sctl
  | [y0, y1, y2, y3, y4, y5, y6, y7, y8, y9, y10, y11, y12, y13, y14, y15, y16, y17, y18, y19, y20, y21] => (dI .i64 y0).bind fun a0 => (dI .i64 y1).bind fun a1 => (dI .i64 y2).bind fun a2 => (dI .i64 y3).bind fun a3 => (dI .i64 y4).bind fun a4 => (dI .i64 y5).bind fun a5 => (dI .i64 y6).bind fun a6 => (dI .i64 y7).bind fun a7 => (dI .i64 y8).bind fun a8 => (dI .i64 y9).bind fun a9 => (dI .i64 y10).bind fun a10 => (dREntry false y11).bind fun a11 => (dI .i64 y12).bind fun a12 => (dI .i64 y13).bind fun a13 => (dI .i64 y14).bind fun a14 => (dI .i64 y15).bind fun a15 => (dI .i64 y16).bind fun a16 => (dI .i64 y17).bind fun a17 => (dI .i64 y18).bind fun a18 => (dI .i64 y19).bind fun a19 => (dI .i64 y20).bind fun a20 => (dI .i64 y21).bind fun a21 => some ⟨a0, a1, a2, a3, a4, a5, a6, a7, a8, a9, a10, a11, a12, a13, a14, a15, a16, a17, a18, a19, a20, a21⟩
  | _ => none
def dctlt : Fr → Option Sctl
  | [y0, y1, y2, y3, y4, y5, y6, y7, y8, y9, y10, y11, y12, y13, y14, y15, y16, y17, y18, y19, y20, y21] => (dI .i64 y0).bind fun a0 => (dI .i64 y1).bind fun a1 => (dI .i64 y2).bind fun a2 => (dI .i64 y3).bind fun a3 => (dI .i64 y4).bind fun a4 => (dI .i64 y5).bind fun a5 => (dI .i64 y6).bind fun a6 => (dI .i64 y7).bind fun a7 => (dI .i64 y8).bind fun a8 => (dI .i64 y9).bind fun a9 => (dI .i64 y10).bind fun a10 => (dREntry true y11).bind fun a11 => (dI .i64 y12).bind fun a12 => (dI .i64 y13).bind fun a13 => (dI .i64 y14).bind fun a14 => (dI .i64 y15).bind fun a15 => (dI .i64 y16).bind fun a16 => (dI .i64 y17).bind fun a17 => (dI .i64 y18).bind fun a18 => (dI .i64 y19).bind fun a19 => (dI .i64 y20).bind fun a20 => (dI .i64 y21).bind fun a21 => some ⟨a0, a1, a2, a3, a4, a5, a6, a7, a8, a9, a10, a11, a12, a13, a14, a15, a16, a17, a18, a19, a20, a21⟩
  | _ => none
def pEntry_ : Fr → Option (List SEntry)
  | [] => some []
  | y0 :: y1 :: r => (dI .i64 y0).bind fun a0 => (dI .i64 y1).bind fun a1 => (pEntry_ r).bind fun xs => some (⟨a0, a1⟩ :: xs)
  | _ => none

def pint_ : Fr → Option (List Int)
  | [] => some []
  | y0 :: r => (dI .i64 y0).bind fun a0 => (pint_ r).bind fun xs => some (a0 :: xs)

def U : Uni RW where
  sz := fun r => match r with
    | .rEntry xs => 2
    | .rint xs => 1
  len := fun r => match r with
    | .rEntry xs => xs.length
    | .rint xs => xs.length
  getA := fun r => match r with
    | .rEntry xs => rg cEntry zEntry xs
    | .rint xs => rg cint zint xs
  get := fun r i => match r with
    | .rEntry xs => eEntry (xs.getD i zEntry)
    | .rint xs => eint (xs.getD i zint)
  app := fun r q => match r with
    | .rEntry xs => (match q with
      | .rEntry ys => some (.rEntry (xs ++ ys))
      | _ => none)
    | .rint xs => (match q with
      | .rint ys => some (.rint (xs ++ ys))
      | _ => none)
  sub := fun lo n r => match r with
    | .rEntry xs => .rEntry (List.take n (xs.drop lo))
    | .rint xs => .rint (List.take n (xs.drop lo))
  szt := fun t => match t with
    | 58 => 2
    | 3 => 1
    | _ => 0
  zt := fun t => match t with
    | 58 => eEntry zEntry
    | 3 => eint zint
    | _ => []
  lit := fun t n L => match t with
    | 58 => (pEntry_ L).bind fun xs => cond (Nat.beq xs.length n) (some (.rEntry xs)) none
    | 3 => (pint_ L).bind fun xs => cond (Nat.beq xs.length n) (some (.rint xs)) none
    | _ => none
/-! tideway/reno.size -/
def G_reno_size {R : Type} (cp : Nat → Nat → Bool) : Nat → Int → (Bool → Option R) → Option R
  | 0, _, _ => none
  | n + 1, p0, k =>
    cond (decide (0 ≤ p0)) (k (decide (p0 ≤ 1073741824))) (k false)
/-! (*tideway/reno.ctl).plain -/
def s_reno_ctl_plain_1 {R : Type} (cp : Nat → Nat → Bool) (n : Nat) (q0 : ST68) (kn : Option R) : Option R :=
  kn
def s_reno_ctl_plain_3 {R : Type} (cp : Nat → Nat → Bool) (n : Nat) (q0 : ST68) (kn : Bool → Option R) : Option R :=
  cond (decide (q0.xCc_Wmax = 0)) (cond (decide (q0.xCc_Epoch = 0)) (cond (decide (q0.xCc_K = 0)) (cond (decide (q0.xCc_West = 0)) (cond (decide (q0.xCc_Start = 0)) (cond (decide (q0.xCc_Mode = 0)) (cond (decide ((q0.xCc_Bw.length : Int) = 0)) (cond (decide (q0.xCc_MinRtt = 0)) (cond (decide (q0.xCc_MinAt = 0)) (cond (decide (q0.xCc_Round = 0)) (cond (decide (q0.xCc_NextAt = 0)) (cond (decide (q0.xCc_Full = 0)) (cond (decide (q0.xCc_FullN = 0)) (cond (decide (q0.xCc_Phase = 0)) (cond (decide (q0.xCc_PhaseAt = 0)) (cond (decide (q0.xCc_DoneAt = 0)) (kn (decide (q0.xCc_Prior = 0))) (kn false)) (kn false)) (kn false)) (kn false)) (kn false)) (kn false)) (kn false)) (kn false)) (kn false)) (kn false)) (kn false)) (kn false)) (kn false)) (kn false)) (kn false)) (kn false)
def s_reno_ctl_plain_5 {R : Type} (cp : Nat → Nat → Bool) (n : Nat) (q0 : ST68) (v4 : Bool) (kr : Option R) : Option R :=
  kr
def s_reno_ctl_plain_7 {R : Type} (cp : Nat → Nat → Bool) (n : Nat) (q0 : ST68) (kr : Bool → Option R) : Option R :=
  s_reno_ctl_plain_3 cp n q0 (fun v4 => s_reno_ctl_plain_5 cp n q0 v4 (kr v4))
def s_reno_ctl_plain_9 {R : Type} (cp : Nat → Nat → Bool) (n : Nat) (q0 : ST68) (kr : Bool → Option R) : Option R :=
  s_reno_ctl_plain_1 cp n q0 (s_reno_ctl_plain_7 cp n q0 (fun v5 => (kr v5)))
def G_reno_ctl_plain {R : Type} (cp : Nat → Nat → Bool) : Nat → ST68 → (Bool → ST68 → Option R) → Option R
  | 0, _, _ => none
  | n + 1, q0, k =>
    s_reno_ctl_plain_9 cp n q0 (fun v6 => k v6 q0)
/-! tideway/reno.Check -/
def G_reno_Check {R : Type} (cp : Nat → Nat → Bool) : Nat → SCc → (Int → Option R) → Option R
  | 0, _, _ => none
  | n + 1, p0, k =>
    cond (!decide (p0.xKind = 1)) (k 230) (cond (decide (p0.xMss < 1)) (k 230) (cond (decide (65000 < p0.xMss)) (k 230) (cond (decide (p0.xCwnd < p0.xMss)) (k 230) (G_reno_size cp n p0.xCwnd (fun r1 => cond (!r1) (k 230) (cond (decide (p0.xSsthresh < (wr .i64 (2 * p0.xMss)))) (k 230) (G_reno_size cp n p0.xSsthresh (fun r2 => cond (!r2) (k 230) (G_reno_size cp n p0.xAcc (fun r3 => cond (!r3) (k 230) (G_reno_ctl_plain cp n (ST68.mk p0.xKind p0.xMss p0.xCwnd p0.xSsthresh p0.xAcc p0.xWmax p0.xEpoch p0.xK p0.xWest p0.xStart p0.xMode p0.xBw p0.xMinRtt p0.xMinAt p0.xRound p0.xNextAt p0.xFull p0.xFullN p0.xPhase p0.xPhaseAt p0.xDoneAt p0.xPrior) (fun r7 r8 => cond (!r7) (k 230) (k 0)))))))))))))
/-! tideway/cubic.size -/
def s_cubic_size_1 {R : Type} (cp : Nat → Nat → Bool) (n : Nat) (p0 : (List Int)) (kn : Option R) : Option R :=
  kn
def s_cubic_size_3 {R : Type} (cp : Nat → Nat → Bool) (n : Nat) (p0 : (List Int)) (kn : Int → Option R) : Option R :=
  kn (p0.length : Int)
def s_cubic_size_5 {R : Type} (cp : Nat → Nat → Bool) (n : Nat) (p0 : (List Int)) (v10 v11 : Int) (kn : Int → Option R) (kr : Option R) (ke0 : Option R) : Option R :=
  cond (decide (v11 < v10)) (cond (decide (0 ≤ v11)) (cond (decide (v11 < (p0.length : Int))) (cond (decide ((p0.getD (Int.toNat v11) zint) < 0)) (kr) (cond (decide (1073741824 < (p0.getD (Int.toNat v11) zint))) (kr) (kn (wr .i64 (v11 + 1))))) (none)) (none)) (ke0)
def l_cubic_size_10 {R : Type} (cp : Nat → Nat → Bool) (n : Nat) : Nat → (List Int) → Int → Int → (Option R) → (Option R) → Option R
  | 0, _, _, _, _, _ => none
  | m + 1, p0, v10, v11, kr, ke0 =>
    s_cubic_size_5 cp n p0 v10 v11 (fun v12 => l_cubic_size_10 cp n m p0 v10 v12 kr ke0) kr ke0
def s_cubic_size_11 {R : Type} (cp : Nat → Nat → Bool) (n : Nat) (p0 : (List Int)) (v10 : Int) (kr : Option R) (ke0 : Option R) : Option R :=
  l_cubic_size_10 cp n n p0 v10 0 kr ke0
def s_cubic_size_12 {R : Type} (cp : Nat → Nat → Bool) (n : Nat) (p0 : (List Int)) (v10 : Int) (kn : Option R) (kr : Option R) : Option R :=
  s_cubic_size_11 cp n p0 v10 kr kn
def s_cubic_size_13 {R : Type} (cp : Nat → Nat → Bool) (n : Nat) (p0 : (List Int)) (kn : Option R) (kr : Option R) : Option R :=
  s_cubic_size_3 cp n p0 (fun v10 => s_cubic_size_12 cp n p0 v10 kn kr)
def s_cubic_size_14 {R : Type} (cp : Nat → Nat → Bool) (n : Nat) (kr : Option R) : Option R :=
  kr
def s_cubic_size_17 {R : Type} (cp : Nat → Nat → Bool) (n : Nat) (p0 : (List Int)) (kr : Bool → Option R) : Option R :=
  s_cubic_size_13 cp n p0 (s_cubic_size_14 cp n (kr true)) (kr false)
def s_cubic_size_19 {R : Type} (cp : Nat → Nat → Bool) (n : Nat) (p0 : (List Int)) (kr : Bool → Option R) : Option R :=
  s_cubic_size_1 cp n p0 (s_cubic_size_17 cp n p0 (fun v13 => (kr v13)))
def G_cubic_size {R : Type} (cp : Nat → Nat → Bool) : Nat → (List Int) → (Bool → Option R) → Option R
  | 0, _, _ => none
  | n + 1, p0, k =>
    s_cubic_size_19 cp n p0 (fun v14 => k v14)
/-! tideway/cubic.Check -/
def G_cubic_Check {R : Type} (cp : Nat → Nat → Bool) : Nat → SCc → (Int → Option R) → Option R
  | 0, _, _ => none
  | n + 1, p0, k =>
    cond (!decide (p0.xKind = 2)) (k 230) (G_reno_Check cp n (SCc.mk 1 p0.xMss p0.xCwnd p0.xSsthresh p0.xAcc 0 0 0 0 0 p0.xMode p0.xBw p0.xMinRtt p0.xMinAt p0.xRound p0.xNextAt p0.xFull p0.xFullN p0.xPhase p0.xPhaseAt p0.xDoneAt p0.xPrior) (fun r9 => cond (!decide (r9 = 0)) (k 230) (G_cubic_size cp n [p0.xWmax, p0.xWest, p0.xStart] (fun r15 => cond (!r15) (k 230) (cond (decide (p0.xK < 0)) (k 230) (cond (decide (2097151 < p0.xK)) (k 230) (cond (decide (p0.xEpoch < (-1))) (k 230) (cond (decide (1125899906842624 < p0.xEpoch)) (k 230) (k 0)))))))))
/-! (*tideway/cubic.ctl).fall -/
def G_cubic_ctl_fall {R : Type} (cp : Nat → Nat → Bool) : Nat → Sctl → (Sctl → Option R) → Option R
  | 0, _, _ => none
  | n + 1, q0, k =>
    cond (decide (q0.xCc_Cwnd < q0.xCc_Wmax)) (k (Sctl.mk q0.xCc_Kind q0.xCc_Mss q0.xCc_Cwnd (mx (wr .i64 (2 * q0.xCc_Mss)) (wr .i64 (Int.tdiv (wr .i64 (7 * q0.xCc_Cwnd)) 10))) 0 (wr .i64 (Int.tdiv (wr .i64 (17 * q0.xCc_Cwnd)) 20)) (-1) q0.xCc_K q0.xCc_West q0.xCc_Start q0.xCc_Mode q0.xCc_Bw q0.xCc_MinRtt q0.xCc_MinAt q0.xCc_Round q0.xCc_NextAt q0.xCc_Full q0.xCc_FullN q0.xCc_Phase q0.xCc_PhaseAt q0.xCc_DoneAt q0.xCc_Prior)) (k (Sctl.mk q0.xCc_Kind q0.xCc_Mss q0.xCc_Cwnd (mx (wr .i64 (2 * q0.xCc_Mss)) (wr .i64 (Int.tdiv (wr .i64 (7 * q0.xCc_Cwnd)) 10))) 0 q0.xCc_Cwnd (-1) q0.xCc_K q0.xCc_West q0.xCc_Start q0.xCc_Mode q0.xCc_Bw q0.xCc_MinRtt q0.xCc_MinAt q0.xCc_Round q0.xCc_NextAt q0.xCc_Full q0.xCc_FullN q0.xCc_Phase q0.xCc_PhaseAt q0.xCc_DoneAt q0.xCc_Prior))
/-! tideway/cubic.moved -/
def G_cubic_moved {R : Type} (cp : Nat → Nat → Bool) : Nat → SCc → Int → (SCc → Int → Option R) → Option R
  | 0, _, _, _ => none
  | n + 1, p0, p1, k =>
    G_cubic_Check cp n p0 (fun r16 => cond (!decide (r16 = 0)) (k (SCc.mk 0 0 0 0 0 0 0 0 0 0 0 [] 0 0 0 0 0 0 0 0 0 0) 230) (G_cubic_size cp n [p1] (fun r17 => cond (!r17) (k (SCc.mk 0 0 0 0 0 0 0 0 0 0 0 [] 0 0 0 0 0 0 0 0 0 0) 2) (G_cubic_ctl_fall cp n (Sctl.mk p0.xKind p0.xMss p0.xCwnd p0.xSsthresh p0.xAcc p0.xWmax p0.xEpoch p0.xK p0.xWest p0.xStart p0.xMode p0.xBw p0.xMinRtt p0.xMinAt p0.xRound p0.xNextAt p0.xFull p0.xFullN p0.xPhase p0.xPhaseAt p0.xDoneAt p0.xPrior) (fun r18 => k (SCc.mk r18.xCc_Kind r18.xCc_Mss r18.xCc_Cwnd r18.xCc_Ssthresh r18.xCc_Acc r18.xCc_Wmax r18.xCc_Epoch r18.xCc_K r18.xCc_West r18.xCc_Start r18.xCc_Mode r18.xCc_Bw r18.xCc_MinRtt r18.xCc_MinAt r18.xCc_Round r18.xCc_NextAt r18.xCc_Full r18.xCc_FullN r18.xCc_Phase r18.xCc_PhaseAt r18.xCc_DoneAt r18.xCc_Prior) 0)))))
/-! tideway/cubic.Loss -/
def G_cubic_Loss {R : Type} (cp : Nat → Nat → Bool) : Nat → SCc → Int → (SCc → Int → Option R) → Option R
  | 0, _, _, _ => none
  | n + 1, p0, p1, k =>
    G_cubic_moved cp n p0 p1 (fun r19 r20 => k r19 r20)
/-! tideway/tidewayref15.Size -/
def G_ref15_Size {R : Type} (cp : Nat → Nat → Bool) : Nat → Int → (Bool → Option R) → Option R
  | 0, _, _ => none
  | n + 1, p0, k =>
    cond (decide (0 ≤ p0)) (k (decide (p0 ≤ 1073741824))) (k false)
/-! tideway/tidewayref15.Common -/
def G_ref15_Common {R : Type} (cp : Nat → Nat → Bool) : Nat → SCc → (Bool → Option R) → Option R
  | 0, _, _ => none
  | n + 1, p0, k =>
    cond (decide (1 ≤ p0.xMss)) (cond (decide (p0.xMss ≤ 65000)) (cond (decide (p0.xMss ≤ p0.xCwnd)) (cond (decide (p0.xCwnd ≤ 1073741824)) (cond (decide ((wr .i64 (2 * p0.xMss)) ≤ p0.xSsthresh)) (cond (decide (p0.xSsthresh ≤ 1073741824)) (G_ref15_Size cp n p0.xAcc (fun r23 => k r23)) (k false)) (k false)) (k false)) (k false)) (k false)) (k false)
/-! tideway/tidewayref15.Plain -/
def s_ref15_Plain_1 {R : Type} (cp : Nat → Nat → Bool) (n : Nat) (p0 : SCc) (p1 p2 : Bool) (kn : Option R) (kr : Option R) : Option R :=
  cond (!p1) (cond (!decide (p0.xWmax = 0)) (kr) (cond (!decide (p0.xEpoch = 0)) (kr) (cond (!decide (p0.xK = 0)) (kr) (cond (!decide (p0.xWest = 0)) (kr) (cond (!decide (p0.xStart = 0)) (kr) (kn)))))) (kn)
def s_ref15_Plain_4 {R : Type} (cp : Nat → Nat → Bool) (n : Nat) (p0 : SCc) (p2 : Bool) (kr : Bool → Option R) : Option R :=
  cond (!p2) (cond (!decide (p0.xMode = 0)) (kr false) (cond (decide (0 < (p0.xBw.length : Int))) (kr false) (cond (!decide (p0.xMinRtt = 0)) (kr false) (cond (!decide (p0.xMinAt = 0)) (kr false) (cond (!decide (p0.xRound = 0)) (kr false) (cond (!decide (p0.xNextAt = 0)) (kr false) (cond (!decide (p0.xFull = 0)) (kr false) (cond (!decide (p0.xFullN = 0)) (kr false) (cond (!decide (p0.xPhase = 0)) (kr false) (cond (!decide (p0.xPhaseAt = 0)) (kr false) (cond (!decide (p0.xDoneAt = 0)) (kr false) (cond (!decide (p0.xPrior = 0)) (kr false) (kr true))))))))))))) (kr true)
def s_ref15_Plain_7 {R : Type} (cp : Nat → Nat → Bool) (n : Nat) (p0 : SCc) (p1 p2 : Bool) (kr : Bool → Option R) : Option R :=
  s_ref15_Plain_1 cp n p0 p1 p2 (s_ref15_Plain_4 cp n p0 p2 (fun v25 => (kr v25))) (kr false)
def G_ref15_Plain {R : Type} (cp : Nat → Nat → Bool) : Nat → SCc → Bool → Bool → (Bool → Option R) → Option R
  | 0, _, _, _, _ => none
  | n + 1, p0, p1, p2, k =>
    s_ref15_Plain_7 cp n p0 p1 p2 (fun v26 => k v26)
/-! tideway/tidewayref16.Check -/
def s_ref16_Check_1 {R : Type} (cp : Nat → Nat → Bool) (n : Nat) (p0 : SCc) (kn : Option R) (kr : Option R) : Option R :=
  cond (!decide (p0.xKind = 2)) (kr) (G_ref15_Common cp n p0 (fun r23 => cond (!r23) (kr) (G_ref15_Plain cp n p0 true false (fun r24 => cond (!r24) (kr) (kn)))))
def s_ref16_Check_4 {R : Type} (cp : Nat → Nat → Bool) (n : Nat) (p0 : SCc) (kr : Int → Option R) : Option R :=
  G_ref15_Size cp n p0.xWmax (fun r25 => cond (!r25) (kr 230) (G_ref15_Size cp n p0.xWest (fun r26 => cond (!r26) (kr 230) (G_ref15_Size cp n p0.xStart (fun r27 => cond (!r27) (kr 230) (cond (decide (p0.xK < 0)) (kr 230) (cond (decide (2097151 < p0.xK)) (kr 230) (cond (decide (p0.xEpoch < (-1))) (kr 230) (cond (decide (1125899906842624 < p0.xEpoch)) (kr 230) (kr 0))))))))))
def s_ref16_Check_7 {R : Type} (cp : Nat → Nat → Bool) (n : Nat) (p0 : SCc) (kr : Int → Option R) : Option R :=
  s_ref16_Check_1 cp n p0 (s_ref16_Check_4 cp n p0 (fun v28 => (kr v28))) (kr 230)
def G_ref16_Check {R : Type} (cp : Nat → Nat → Bool) : Nat → SCc → (Int → Option R) → Option R
  | 0, _, _ => none
  | n + 1, p0, k =>
    s_ref16_Check_7 cp n p0 (fun v29 => k v29)
/-! tideway/tidewayref16.Loss -/
def G_ref16_Loss {R : Type} (cp : Nat → Nat → Bool) : Nat → SCc → Int → (SCc → Int → Option R) → Option R
  | 0, _, _, _ => none
  | n + 1, p0, p1, k =>
    G_ref16_Check cp n p0 (fun r30 => cond (!decide (r30 = 0)) (k (SCc.mk 0 0 0 0 0 0 0 0 0 0 0 [] 0 0 0 0 0 0 0 0 0 0) 230) (G_ref15_Size cp n p1 (fun r31 => cond (!r31) (k (SCc.mk 0 0 0 0 0 0 0 0 0 0 0 [] 0 0 0 0 0 0 0 0 0 0) 2) (cond (decide (p0.xCwnd < p0.xWmax)) (k (SCc.mk p0.xKind p0.xMss p0.xCwnd (mx (wr .i64 (Int.tdiv (wr .i64 (p0.xCwnd * 7)) 10)) (wr .i64 (2 * p0.xMss))) 0 (wr .i64 (Int.tdiv (wr .i64 (p0.xCwnd * 17)) 20)) (-1) p0.xK p0.xWest p0.xStart p0.xMode p0.xBw p0.xMinRtt p0.xMinAt p0.xRound p0.xNextAt p0.xFull p0.xFullN p0.xPhase p0.xPhaseAt p0.xDoneAt p0.xPrior) 0) (k (SCc.mk p0.xKind p0.xMss p0.xCwnd (mx (wr .i64 (Int.tdiv (wr .i64 (p0.xCwnd * 7)) 10)) (wr .i64 (2 * p0.xMss))) 0 p0.xCwnd (-1) p0.xK p0.xWest p0.xStart p0.xMode p0.xBw p0.xMinRtt p0.xMinAt p0.xRound p0.xNextAt p0.xFull p0.xFullN p0.xPhase p0.xPhaseAt p0.xDoneAt p0.xPrior) 0)))))
/-! (*tideway/cubic.ctl).shut -/
def G_cubic_ctl_shut {R : Type} (cp : Nat → Nat → Bool) : Nat → Sctl → (Sctl → Option R) → Option R
  | 0, _, _ => none
  | n + 1, q0, k =>
    G_cubic_ctl_fall cp n q0 (fun r36 => k (Sctl.mk r36.xCc_Kind r36.xCc_Mss r36.xCc_Mss r36.xCc_Ssthresh r36.xCc_Acc r36.xCc_Wmax r36.xCc_Epoch r36.xCc_K r36.xCc_West r36.xCc_Start r36.xCc_Mode r36.xCc_Bw r36.xCc_MinRtt r36.xCc_MinAt r36.xCc_Round r36.xCc_NextAt r36.xCc_Full r36.xCc_FullN r36.xCc_Phase r36.xCc_PhaseAt r36.xCc_DoneAt r36.xCc_Prior))
/-! tideway/cubic.moved -/
def G_cubic_moved_b {R : Type} (cp : Nat → Nat → Bool) : Nat → SCc → Int → (SCc → Int → Option R) → Option R
  | 0, _, _, _ => none
  | n + 1, p0, p1, k =>
    G_cubic_Check cp n p0 (fun r34 => cond (!decide (r34 = 0)) (k (SCc.mk 0 0 0 0 0 0 0 0 0 0 0 [] 0 0 0 0 0 0 0 0 0 0) 230) (G_cubic_size cp n [p1] (fun r35 => cond (!r35) (k (SCc.mk 0 0 0 0 0 0 0 0 0 0 0 [] 0 0 0 0 0 0 0 0 0 0) 2) (G_cubic_ctl_shut cp n (Sctl.mk p0.xKind p0.xMss p0.xCwnd p0.xSsthresh p0.xAcc p0.xWmax p0.xEpoch p0.xK p0.xWest p0.xStart p0.xMode p0.xBw p0.xMinRtt p0.xMinAt p0.xRound p0.xNextAt p0.xFull p0.xFullN p0.xPhase p0.xPhaseAt p0.xDoneAt p0.xPrior) (fun r37 => k (SCc.mk r37.xCc_Kind r37.xCc_Mss r37.xCc_Cwnd r37.xCc_Ssthresh r37.xCc_Acc r37.xCc_Wmax r37.xCc_Epoch r37.xCc_K r37.xCc_West r37.xCc_Start r37.xCc_Mode r37.xCc_Bw r37.xCc_MinRtt r37.xCc_MinAt r37.xCc_Round r37.xCc_NextAt r37.xCc_Full r37.xCc_FullN r37.xCc_Phase r37.xCc_PhaseAt r37.xCc_DoneAt r37.xCc_Prior) 0)))))
/-! tideway/cubic.Timeout -/
def G_cubic_Timeout {R : Type} (cp : Nat → Nat → Bool) : Nat → SCc → Int → (SCc → Int → Option R) → Option R
  | 0, _, _, _ => none
  | n + 1, p0, p1, k =>
    G_cubic_moved_b cp n p0 p1 (fun r38 r39 => k r38 r39)
/-! tideway/tidewayref16.Timeout -/
def G_ref16_Timeout {R : Type} (cp : Nat → Nat → Bool) : Nat → SCc → Int → (SCc → Int → Option R) → Option R
  | 0, _, _, _ => none
  | n + 1, p0, p1, k =>
    G_ref16_Loss cp n p0 p1 (fun r42 r43 => cond (!decide (r43 = 0)) (k (SCc.mk 0 0 0 0 0 0 0 0 0 0 0 [] 0 0 0 0 0 0 0 0 0 0) r43) (k (SCc.mk r42.xKind r42.xMss r42.xMss r42.xSsthresh r42.xAcc r42.xWmax r42.xEpoch r42.xK r42.xWest r42.xStart r42.xMode r42.xBw r42.xMinRtt r42.xMinAt r42.xRound r42.xNextAt r42.xFull r42.xFullN r42.xPhase r42.xPhaseAt r42.xDoneAt r42.xPrior) 0))
/-! (*tideway/cubic.ctl).done -/
def G_cubic_ctl_done {R : Type} (cp : Nat → Nat → Bool) : Nat → Sctl → (Sctl → Option R) → Option R
  | 0, _, _ => none
  | n + 1, q0, k =>
    k (Sctl.mk q0.xCc_Kind q0.xCc_Mss q0.xCc_Ssthresh q0.xCc_Ssthresh q0.xCc_Acc q0.xCc_Wmax q0.xCc_Epoch q0.xCc_K q0.xCc_West q0.xCc_Start q0.xCc_Mode q0.xCc_Bw q0.xCc_MinRtt q0.xCc_MinAt q0.xCc_Round q0.xCc_NextAt q0.xCc_Full q0.xCc_FullN q0.xCc_Phase q0.xCc_PhaseAt q0.xCc_DoneAt q0.xCc_Prior)
/-! tideway/cubic.moved -/
def G_cubic_moved_b_b {R : Type} (cp : Nat → Nat → Bool) : Nat → SCc → Int → (SCc → Int → Option R) → Option R
  | 0, _, _, _ => none
  | n + 1, p0, p1, k =>
    G_cubic_Check cp n p0 (fun r46 => cond (!decide (r46 = 0)) (k (SCc.mk 0 0 0 0 0 0 0 0 0 0 0 [] 0 0 0 0 0 0 0 0 0 0) 230) (G_cubic_size cp n [p1] (fun r47 => cond (!r47) (k (SCc.mk 0 0 0 0 0 0 0 0 0 0 0 [] 0 0 0 0 0 0 0 0 0 0) 2) (G_cubic_ctl_done cp n (Sctl.mk p0.xKind p0.xMss p0.xCwnd p0.xSsthresh p0.xAcc p0.xWmax p0.xEpoch p0.xK p0.xWest p0.xStart p0.xMode p0.xBw p0.xMinRtt p0.xMinAt p0.xRound p0.xNextAt p0.xFull p0.xFullN p0.xPhase p0.xPhaseAt p0.xDoneAt p0.xPrior) (fun r48 => k (SCc.mk r48.xCc_Kind r48.xCc_Mss r48.xCc_Cwnd r48.xCc_Ssthresh r48.xCc_Acc r48.xCc_Wmax r48.xCc_Epoch r48.xCc_K r48.xCc_West r48.xCc_Start r48.xCc_Mode r48.xCc_Bw r48.xCc_MinRtt r48.xCc_MinAt r48.xCc_Round r48.xCc_NextAt r48.xCc_Full r48.xCc_FullN r48.xCc_Phase r48.xCc_PhaseAt r48.xCc_DoneAt r48.xCc_Prior) 0)))))
/-! tideway/cubic.Done -/
def G_cubic_Done {R : Type} (cp : Nat → Nat → Bool) : Nat → SCc → (SCc → Int → Option R) → Option R
  | 0, _, _ => none
  | n + 1, p0, k =>
    G_cubic_moved_b_b cp n p0 0 (fun r49 r50 => k r49 r50)
/-! tideway/tidewayref16.Done -/
def G_ref16_Done {R : Type} (cp : Nat → Nat → Bool) : Nat → SCc → (SCc → Int → Option R) → Option R
  | 0, _, _ => none
  | n + 1, p0, k =>
    G_ref16_Check cp n p0 (fun r31 => cond (!decide (r31 = 0)) (k (SCc.mk 0 0 0 0 0 0 0 0 0 0 0 [] 0 0 0 0 0 0 0 0 0 0) 230) (k (SCc.mk p0.xKind p0.xMss p0.xSsthresh p0.xSsthresh p0.xAcc p0.xWmax p0.xEpoch p0.xK p0.xWest p0.xStart p0.xMode p0.xBw p0.xMinRtt p0.xMinAt p0.xRound p0.xNextAt p0.xFull p0.xFullN p0.xPhase p0.xPhaseAt p0.xDoneAt p0.xPrior) 0))
/-! tideway/reno.New -/
def G_reno_New {R : Type} (cp : Nat → Nat → Bool) : Nat → Int → Int → (SCc → Int → Option R) → Option R
  | 0, _, _, _ => none
  | n + 1, p0, p1, k =>
    cond (decide (p0 < 1)) (k (SCc.mk 0 0 0 0 0 0 0 0 0 0 0 [] 0 0 0 0 0 0 0 0 0 0) 2) (cond (decide (65000 < p0)) (k (SCc.mk 0 0 0 0 0 0 0 0 0 0 0 [] 0 0 0 0 0 0 0 0 0 0) 2) (cond (decide (p1 < 1)) (k (SCc.mk 0 0 0 0 0 0 0 0 0 0 0 [] 0 0 0 0 0 0 0 0 0 0) 2) (cond (decide (100 < p1)) (k (SCc.mk 0 0 0 0 0 0 0 0 0 0 0 [] 0 0 0 0 0 0 0 0 0 0) 2) (k (SCc.mk 1 p0 (wr .i64 (p0 * p1)) 1073741824 0 0 0 0 0 0 0 [] 0 0 0 0 0 0 0 0 0 0) 0))))
/-! tideway/cubic.New -/
def G_cubic_New {R : Type} (cp : Nat → Nat → Bool) : Nat → Int → Int → (SCc → Int → Option R) → Option R
  | 0, _, _, _ => none
  | n + 1, p0, p1, k =>
    G_reno_New cp n p0 p1 (fun r34 r35 => cond (decide (r35 = 0)) (k (SCc.mk 2 r34.xMss r34.xCwnd r34.xSsthresh r34.xAcc r34.xWmax (-1) r34.xK r34.xWest r34.xStart r34.xMode r34.xBw r34.xMinRtt r34.xMinAt r34.xRound r34.xNextAt r34.xFull r34.xFullN r34.xPhase r34.xPhaseAt r34.xDoneAt r34.xPrior) r35) (k r34 r35))
/-! tideway/tidewayref15.New -/
def G_ref15_New {R : Type} (cp : Nat → Nat → Bool) : Nat → Int → Int → (SCc → Int → Option R) → Option R
  | 0, _, _, _ => none
  | n + 1, p0, p1, k =>
    cond (decide (p0 < 1)) (k (SCc.mk 0 0 0 0 0 0 0 0 0 0 0 [] 0 0 0 0 0 0 0 0 0 0) 2) (cond (decide (65000 < p0)) (k (SCc.mk 0 0 0 0 0 0 0 0 0 0 0 [] 0 0 0 0 0 0 0 0 0 0) 2) (cond (decide (p1 < 1)) (k (SCc.mk 0 0 0 0 0 0 0 0 0 0 0 [] 0 0 0 0 0 0 0 0 0 0) 2) (cond (decide (100 < p1)) (k (SCc.mk 0 0 0 0 0 0 0 0 0 0 0 [] 0 0 0 0 0 0 0 0 0 0) 2) (k (SCc.mk 1 p0 (wr .i64 (p1 * p0)) 1073741824 0 0 0 0 0 0 0 [] 0 0 0 0 0 0 0 0 0 0) 0))))
/-! tideway/tidewayref16.New -/
def G_ref16_New {R : Type} (cp : Nat → Nat → Bool) : Nat → Int → Int → (SCc → Int → Option R) → Option R
  | 0, _, _, _ => none
  | n + 1, p0, p1, k =>
    G_ref15_New cp n p0 p1 (fun r38 r39 => cond (!decide (r39 = 0)) (k (SCc.mk 0 0 0 0 0 0 0 0 0 0 0 [] 0 0 0 0 0 0 0 0 0 0) r39) (k (SCc.mk 2 r38.xMss r38.xCwnd r38.xSsthresh r38.xAcc r38.xWmax (-1) r38.xK r38.xWest r38.xStart r38.xMode r38.xBw r38.xMinRtt r38.xMinAt r38.xRound r38.xNextAt r38.xFull r38.xFullN r38.xPhase r38.xPhaseAt r38.xDoneAt r38.xPrior) 0))
/-! tideway/tidewayref15.Same -/
def s_ref15_Same_1 {R : Type} (cp : Nat → Nat → Bool) (n : Nat) (p0 p1 : SCc) (kn : Option R) (kr : Option R) : Option R :=
  cond (!decide (p0.xKind = p1.xKind)) (kr) (cond (!decide (p0.xMss = p1.xMss)) (kr) (cond (!decide (p0.xCwnd = p1.xCwnd)) (kr) (cond (!decide (p0.xSsthresh = p1.xSsthresh)) (kr) (cond (!decide (p0.xAcc = p1.xAcc)) (kr) (cond (!decide (p0.xWmax = p1.xWmax)) (kr) (cond (!decide (p0.xEpoch = p1.xEpoch)) (kr) (cond (!decide (p0.xK = p1.xK)) (kr) (cond (!decide (p0.xWest = p1.xWest)) (kr) (cond (!decide (p0.xStart = p1.xStart)) (kr) (kn))))))))))
def s_ref15_Same_4 {R : Type} (cp : Nat → Nat → Bool) (n : Nat) (p0 p1 : SCc) (kn : Option R) (kr : Option R) : Option R :=
  cond (!decide (p0.xMode = p1.xMode)) (kr) (cond (!decide (p0.xMinRtt = p1.xMinRtt)) (kr) (cond (!decide (p0.xMinAt = p1.xMinAt)) (kr) (cond (!decide (p0.xRound = p1.xRound)) (kr) (cond (!decide (p0.xNextAt = p1.xNextAt)) (kr) (cond (!decide (p0.xFull = p1.xFull)) (kr) (cond (!decide (p0.xFullN = p1.xFullN)) (kr) (cond (!decide (p0.xPhase = p1.xPhase)) (kr) (cond (!decide (p0.xPhaseAt = p1.xPhaseAt)) (kr) (cond (!decide (p0.xDoneAt = p1.xDoneAt)) (kr) (cond (!decide (p0.xPrior = p1.xPrior)) (kr) (cond (!decide ((p0.xBw.length : Int) = (p1.xBw.length : Int))) (kr) (kn))))))))))))
def s_ref15_Same_5 {R : Type} (cp : Nat → Nat → Bool) (n : Nat) (p0 p1 : SCc) (kn : Option R) : Option R :=
  kn
def s_ref15_Same_7 {R : Type} (cp : Nat → Nat → Bool) (n : Nat) (p0 p1 : SCc) (v42 : Int) (kn : Int → Option R) (kr : Option R) (ke0 : Option R) : Option R :=
  cond (decide (v42 < (p0.xBw.length : Int))) (cond (decide (0 ≤ v42)) (cond (decide (v42 < (p0.xBw.length : Int))) (cond (decide (0 ≤ v42)) (cond (decide (v42 < (p1.xBw.length : Int))) (cond (!(decide ((p0.xBw.getD (Int.toNat v42) zEntry).xAt = (p1.xBw.getD (Int.toNat v42) zEntry).xAt) && (decide ((p0.xBw.getD (Int.toNat v42) zEntry).xV = (p1.xBw.getD (Int.toNat v42) zEntry).xV) && true))) (kr) (kn (wr .i64 (v42 + 1)))) (none)) (none)) (none)) (none)) (ke0)
def l_ref15_Same_11 {R : Type} (cp : Nat → Nat → Bool) (n : Nat) : Nat → SCc → SCc → Int → (Option R) → (Option R) → Option R
  | 0, _, _, _, _, _ => none
  | m + 1, p0, p1, v42, kr, ke0 =>
    s_ref15_Same_7 cp n p0 p1 v42 (fun v43 => l_ref15_Same_11 cp n m p0 p1 v43 kr ke0) kr ke0
def s_ref15_Same_12 {R : Type} (cp : Nat → Nat → Bool) (n : Nat) (p0 p1 : SCc) (kr : Option R) (ke0 : Option R) : Option R :=
  l_ref15_Same_11 cp n n p0 p1 0 kr ke0
def s_ref15_Same_13 {R : Type} (cp : Nat → Nat → Bool) (n : Nat) (p0 p1 : SCc) (kn : Option R) (kr : Option R) : Option R :=
  s_ref15_Same_12 cp n p0 p1 kr kn
def s_ref15_Same_14 {R : Type} (cp : Nat → Nat → Bool) (n : Nat) (p0 p1 : SCc) (kn : Option R) (kr : Option R) : Option R :=
  s_ref15_Same_5 cp n p0 p1 (s_ref15_Same_13 cp n p0 p1 kn kr)
def s_ref15_Same_15 {R : Type} (cp : Nat → Nat → Bool) (n : Nat) (kr : Option R) : Option R :=
  kr
def s_ref15_Same_18 {R : Type} (cp : Nat → Nat → Bool) (n : Nat) (p0 p1 : SCc) (kr : Bool → Option R) : Option R :=
  s_ref15_Same_14 cp n p0 p1 (s_ref15_Same_15 cp n (kr true)) (kr false)
def s_ref15_Same_20 {R : Type} (cp : Nat → Nat → Bool) (n : Nat) (p0 p1 : SCc) (kr : Bool → Option R) : Option R :=
  s_ref15_Same_4 cp n p0 p1 (s_ref15_Same_18 cp n p0 p1 (fun v44 => (kr v44))) (kr false)
def s_ref15_Same_22 {R : Type} (cp : Nat → Nat → Bool) (n : Nat) (p0 p1 : SCc) (kr : Bool → Option R) : Option R :=
  s_ref15_Same_1 cp n p0 p1 (s_ref15_Same_20 cp n p0 p1 (fun v45 => (kr v45))) (kr false)
def G_ref15_Same {R : Type} (cp : Nat → Nat → Bool) : Nat → SCc → SCc → (Bool → Option R) → Option R
  | 0, _, _, _ => none
  | n + 1, p0, p1, k =>
    s_ref15_Same_22 cp n p0 p1 (fun v46 => k v46)
/-! math/bits.Mul64 -/
def G_math_bits_Mul64 {R : Type} (cp : Nat → Nat → Bool) : Nat → Int → Int → (Int → Int → Option R) → Option R
  | 0, _, _, _ => none
  | n + 1, p0, p1, k =>
    k (wr .u64 ((wr .u64 ((wr .u64 ((shr .u64 p0 32) * (shr .u64 p1 32))) + (shr .u64 (wr .u64 ((wr .u64 ((shr .u64 p0 32) * (bits .and .u64 p1 4294967295))) + (shr .u64 (wr .u64 ((bits .and .u64 p0 4294967295) * (bits .and .u64 p1 4294967295))) 32))) 32))) + (shr .u64 (wr .u64 ((bits .and .u64 (wr .u64 ((wr .u64 ((shr .u64 p0 32) * (bits .and .u64 p1 4294967295))) + (shr .u64 (wr .u64 ((bits .and .u64 p0 4294967295) * (bits .and .u64 p1 4294967295))) 32))) 4294967295) + (wr .u64 ((bits .and .u64 p0 4294967295) * (shr .u64 p1 32))))) 32))) (wr .u64 (p0 * p1))
/-! math/bits.Len64 -/
def G_math_bits_Len64 {R : Type} (cp : Nat → Nat → Bool) : Nat → Int → (Int → Option R) → Option R
  | 0, _, _ => none
  | n + 1, p0, k =>
    cond (decide (4294967296 ≤ p0)) (cond (decide (65536 ≤ (shr .u64 p0 32))) (cond (decide (256 ≤ (shr .u64 (shr .u64 p0 32) 16))) (cond (decide (0 ≤ wr .u8 (shr .u64 (shr .u64 (shr .u64 p0 32) 16) 8))) (cond (decide (wr .u8 (shr .u64 (shr .u64 (shr .u64 p0 32) 16) 8) < (ByteArray.size tab256_2793 : Int))) (k (wr .i64 ((wr .i64 ((wr .i64 (32 + 16)) + 8)) + (wr .i64 ((tab256_2793.data.getD (Int.toNat (wr .u8 (shr .u64 (shr .u64 (shr .u64 p0 32) 16) 8))) 0).toNat : Int))))) (none)) (none)) (cond (decide (0 ≤ wr .u8 (shr .u64 (shr .u64 p0 32) 16))) (cond (decide (wr .u8 (shr .u64 (shr .u64 p0 32) 16) < (ByteArray.size tab256_2793 : Int))) (k (wr .i64 ((wr .i64 (32 + 16)) + (wr .i64 ((tab256_2793.data.getD (Int.toNat (wr .u8 (shr .u64 (shr .u64 p0 32) 16))) 0).toNat : Int))))) (none)) (none))) (cond (decide (256 ≤ (shr .u64 p0 32))) (cond (decide (0 ≤ wr .u8 (shr .u64 (shr .u64 p0 32) 8))) (cond (decide (wr .u8 (shr .u64 (shr .u64 p0 32) 8) < (ByteArray.size tab256_2793 : Int))) (k (wr .i64 ((wr .i64 (32 + 8)) + (wr .i64 ((tab256_2793.data.getD (Int.toNat (wr .u8 (shr .u64 (shr .u64 p0 32) 8))) 0).toNat : Int))))) (none)) (none)) (cond (decide (0 ≤ wr .u8 (shr .u64 p0 32))) (cond (decide (wr .u8 (shr .u64 p0 32) < (ByteArray.size tab256_2793 : Int))) (k (wr .i64 (32 + (wr .i64 ((tab256_2793.data.getD (Int.toNat (wr .u8 (shr .u64 p0 32))) 0).toNat : Int))))) (none)) (none)))) (cond (decide (65536 ≤ p0)) (cond (decide (256 ≤ (shr .u64 p0 16))) (cond (decide (0 ≤ wr .u8 (shr .u64 (shr .u64 p0 16) 8))) (cond (decide (wr .u8 (shr .u64 (shr .u64 p0 16) 8) < (ByteArray.size tab256_2793 : Int))) (k (wr .i64 ((wr .i64 ((wr .i64 (0 + 16)) + 8)) + (wr .i64 ((tab256_2793.data.getD (Int.toNat (wr .u8 (shr .u64 (shr .u64 p0 16) 8))) 0).toNat : Int))))) (none)) (none)) (cond (decide (0 ≤ wr .u8 (shr .u64 p0 16))) (cond (decide (wr .u8 (shr .u64 p0 16) < (ByteArray.size tab256_2793 : Int))) (k (wr .i64 ((wr .i64 (0 + 16)) + (wr .i64 ((tab256_2793.data.getD (Int.toNat (wr .u8 (shr .u64 p0 16))) 0).toNat : Int))))) (none)) (none))) (cond (decide (256 ≤ p0)) (cond (decide (0 ≤ wr .u8 (shr .u64 p0 8))) (cond (decide (wr .u8 (shr .u64 p0 8) < (ByteArray.size tab256_2793 : Int))) (k (wr .i64 ((wr .i64 (0 + 8)) + (wr .i64 ((tab256_2793.data.getD (Int.toNat (wr .u8 (shr .u64 p0 8))) 0).toNat : Int))))) (none)) (none)) (cond (decide (0 ≤ wr .u8 p0)) (cond (decide (wr .u8 p0 < (ByteArray.size tab256_2793 : Int))) (k (wr .i64 (0 + (wr .i64 ((tab256_2793.data.getD (Int.toNat (wr .u8 p0)) 0).toNat : Int))))) (none)) (none))))
/-! math/bits.LeadingZeros64 -/
def G_math_bits_LeadingZeros64 {R : Type} (cp : Nat → Nat → Bool) : Nat → Int → (Int → Option R) → Option R
  | 0, _, _ => none
  | n + 1, p0, k =>
    G_math_bits_Len64 cp n p0 (fun r65 => k (wr .i64 (64 - r65)))
/-! math/bits.Div64 -/
def s_math_bits_Div64_1 {R : Type} (cp : Nat → Nat → Bool) (n : Nat) (p0 p1 p2 : Int) (kn : Int → Int → Int → Int → Int → Int → Int → Int → Int → Option R) (kr : Int → Int → Option R) : Option R :=
  cond (decide (p2 = 0)) (none) (cond (decide (p2 ≤ p0)) (none) (cond (decide (p0 = 0)) (cond (decide (p2 = 0)) (none) (cond (decide (p2 = 0)) (none) (kr (wr .u64 (Int.tdiv p1 p2)) (Int.tmod p1 p2)))) (G_math_bits_LeadingZeros64 cp n p2 (fun r75 => cond (decide ((wr .u64 r75) < 0)) (none) (cond (decide ((wr .u64 r75) < 0)) (none) (cond (decide ((wr .u64 (64 - (wr .u64 r75))) < 0)) (none) (cond (decide ((wr .u64 r75) < 0)) (none) (cond (decide ((shr .u64 (shl .u64 p2 (wr .u64 r75)) 32) = 0)) (none) (kn (shl .u64 p2 (wr .u64 r75)) (wr .u64 r75) (shr .u64 (shl .u64 p2 (wr .u64 r75)) 32) (bits .and .u64 (shl .u64 p2 (wr .u64 r75)) 4294967295) (bits .or .u64 (shl .u64 p0 (wr .u64 r75)) (shr .u64 p1 (wr .u64 (64 - (wr .u64 r75))))) (shr .u64 (shl .u64 p1 (wr .u64 r75)) 32) (bits .and .u64 (shl .u64 p1 (wr .u64 r75)) 4294967295) (wr .u64 (Int.tdiv (bits .or .u64 (shl .u64 p0 (wr .u64 r75)) (shr .u64 p1 (wr .u64 (64 - (wr .u64 r75))))) (shr .u64 (shl .u64 p2 (wr .u64 r75)) 32))) (wr .u64 ((bits .or .u64 (shl .u64 p0 (wr .u64 r75)) (shr .u64 p1 (wr .u64 (64 - (wr .u64 r75))))) - (wr .u64 ((wr .u64 (Int.tdiv (bits .or .u64 (shl .u64 p0 (wr .u64 r75)) (shr .u64 p1 (wr .u64 (64 - (wr .u64 r75))))) (shr .u64 (shl .u64 p2 (wr .u64 r75)) 32))) * (shr .u64 (shl .u64 p2 (wr .u64 r75)) 32))))))))))))))
def s_math_bits_Div64_4 {R : Type} (cp : Nat → Nat → Bool) (n : Nat) (v76 v77 v78 v79 v80 v81 v82 v87 v88 : Int) (kn : Int → Int → Option R) (ke0 : Int → Option R) : Option R :=
  cond (decide (4294967296 ≤ v87)) (cond (decide (4294967296 ≤ (wr .u64 (v88 + v78)))) (ke0 (wr .u64 (v87 - 1))) (kn (wr .u64 (v87 - 1)) (wr .u64 (v88 + v78)))) (cond (decide ((wr .u64 ((wr .u64 (4294967296 * v88)) + v81)) < (wr .u64 (v87 * v79)))) (cond (decide (4294967296 ≤ (wr .u64 (v88 + v78)))) (ke0 (wr .u64 (v87 - 1))) (kn (wr .u64 (v87 - 1)) (wr .u64 (v88 + v78)))) (ke0 v87))
def l_math_bits_Div64_9 {R : Type} (cp : Nat → Nat → Bool) (n : Nat) : Nat → Int → Int → Int → Int → Int → Int → Int → Int → Int → (Int → Option R) → Option R
  | 0, _, _, _, _, _, _, _, _, _, _ => none
  | m + 1, v76, v77, v78, v79, v80, v81, v82, v87, v88, ke0 =>
    s_math_bits_Div64_4 cp n v76 v77 v78 v79 v80 v81 v82 v87 v88 (fun v89 v90 => l_math_bits_Div64_9 cp n m v76 v77 v78 v79 v80 v81 v82 v89 v90 ke0) (fun v91 => (ke0 v91))
def s_math_bits_Div64_10 {R : Type} (cp : Nat → Nat → Bool) (n : Nat) (v76 v77 v78 v79 v80 v81 v82 v83 v84 : Int) (ke0 : Int → Option R) : Option R :=
  l_math_bits_Div64_9 cp n n v76 v77 v78 v79 v80 v81 v82 v83 v84 ke0
def s_math_bits_Div64_12 {R : Type} (cp : Nat → Nat → Bool) (n : Nat) (v76 v77 v78 v79 v80 v81 v82 v83 v84 : Int) (kn : Int → Option R) : Option R :=
  s_math_bits_Div64_10 cp n v76 v77 v78 v79 v80 v81 v82 v83 v84 (fun v92 => (kn v92))
def s_math_bits_Div64_13 {R : Type} (cp : Nat → Nat → Bool) (n : Nat) (v76 v77 v78 v79 v80 v81 v82 v93 : Int) (kn : Int → Int → Int → Option R) : Option R :=
  cond (decide (v78 = 0)) (none) (kn (wr .u64 ((wr .u64 ((wr .u64 ((wr .u64 (v80 * 4294967296)) + v81)) - (wr .u64 (v93 * v76)))) - (wr .u64 ((wr .u64 (Int.tdiv (wr .u64 ((wr .u64 ((wr .u64 (v80 * 4294967296)) + v81)) - (wr .u64 (v93 * v76)))) v78)) * v78)))) (wr .u64 ((wr .u64 ((wr .u64 (v80 * 4294967296)) + v81)) - (wr .u64 (v93 * v76)))) (wr .u64 (Int.tdiv (wr .u64 ((wr .u64 ((wr .u64 (v80 * 4294967296)) + v81)) - (wr .u64 (v93 * v76)))) v78)))
def s_math_bits_Div64_15 {R : Type} (cp : Nat → Nat → Bool) (n : Nat) (v76 v77 v78 v79 v82 v93 v95 v97 v98 : Int) (kn : Int → Int → Option R) (ke2 : Int → Option R) : Option R :=
  cond (decide (4294967296 ≤ v98)) (cond (decide (4294967296 ≤ (wr .u64 (v97 + v78)))) (ke2 (wr .u64 (v98 - 1))) (kn (wr .u64 (v97 + v78)) (wr .u64 (v98 - 1)))) (cond (decide ((wr .u64 ((wr .u64 (4294967296 * v97)) + v82)) < (wr .u64 (v98 * v79)))) (cond (decide (4294967296 ≤ (wr .u64 (v97 + v78)))) (ke2 (wr .u64 (v98 - 1))) (kn (wr .u64 (v97 + v78)) (wr .u64 (v98 - 1)))) (ke2 v98))
def l_math_bits_Div64_20 {R : Type} (cp : Nat → Nat → Bool) (n : Nat) : Nat → Int → Int → Int → Int → Int → Int → Int → Int → Int → (Int → Option R) → Option R
  | 0, _, _, _, _, _, _, _, _, _, _ => none
  | m + 1, v76, v77, v78, v79, v82, v93, v95, v97, v98, ke2 =>
    s_math_bits_Div64_15 cp n v76 v77 v78 v79 v82 v93 v95 v97 v98 (fun v99 v100 => l_math_bits_Div64_20 cp n m v76 v77 v78 v79 v82 v93 v95 v99 v100 ke2) (fun v101 => (ke2 v101))
def s_math_bits_Div64_21 {R : Type} (cp : Nat → Nat → Bool) (n : Nat) (v76 v77 v78 v79 v82 v93 v94 v95 v96 : Int) (ke2 : Int → Option R) : Option R :=
  l_math_bits_Div64_20 cp n n v76 v77 v78 v79 v82 v93 v95 v94 v96 ke2
def s_math_bits_Div64_23 {R : Type} (cp : Nat → Nat → Bool) (n : Nat) (v76 v77 v78 v79 v82 v93 v94 v95 v96 : Int) (kn : Int → Option R) : Option R :=
  s_math_bits_Div64_21 cp n v76 v77 v78 v79 v82 v93 v94 v95 v96 (fun v102 => (kn v102))
def s_math_bits_Div64_24 {R : Type} (cp : Nat → Nat → Bool) (n : Nat) (v76 v77 v82 v93 v95 v103 : Int) (kr : Int → Int → Option R) : Option R :=
  cond (decide (v77 < 0)) (none) (kr (wr .u64 ((wr .u64 (v93 * 4294967296)) + v103)) (shr .u64 (wr .u64 ((wr .u64 ((wr .u64 (v95 * 4294967296)) + v82)) - (wr .u64 (v103 * v76)))) v77))
def s_math_bits_Div64_27 {R : Type} (cp : Nat → Nat → Bool) (n : Nat) (v76 v77 v78 v79 v82 v93 v94 v95 v96 : Int) (kr : Int → Int → Option R) : Option R :=
  s_math_bits_Div64_23 cp n v76 v77 v78 v79 v82 v93 v94 v95 v96 (fun v103 => s_math_bits_Div64_24 cp n v76 v77 v82 v93 v95 v103 (fun v104 v105 => (kr v104 v105)))
def s_math_bits_Div64_29 {R : Type} (cp : Nat → Nat → Bool) (n : Nat) (v76 v77 v78 v79 v80 v81 v82 v93 : Int) (kr : Int → Int → Option R) : Option R :=
  s_math_bits_Div64_13 cp n v76 v77 v78 v79 v80 v81 v82 v93 (fun v94 v95 v96 => s_math_bits_Div64_27 cp n v76 v77 v78 v79 v82 v93 v94 v95 v96 (fun v106 v107 => (kr v106 v107)))
def s_math_bits_Div64_31 {R : Type} (cp : Nat → Nat → Bool) (n : Nat) (v76 v77 v78 v79 v80 v81 v82 v83 v84 : Int) (kr : Int → Int → Option R) : Option R :=
  s_math_bits_Div64_12 cp n v76 v77 v78 v79 v80 v81 v82 v83 v84 (fun v93 => s_math_bits_Div64_29 cp n v76 v77 v78 v79 v80 v81 v82 v93 (fun v108 v109 => (kr v108 v109)))
def s_math_bits_Div64_33 {R : Type} (cp : Nat → Nat → Bool) (n : Nat) (p0 p1 p2 : Int) (kr : Int → Int → Option R) : Option R :=
  s_math_bits_Div64_1 cp n p0 p1 p2 (fun v76 v77 v78 v79 v80 v81 v82 v83 v84 => s_math_bits_Div64_31 cp n v76 v77 v78 v79 v80 v81 v82 v83 v84 (fun v110 v111 => (kr v110 v111))) (fun v85 v86 => (kr v85 v86))
def G_math_bits_Div64 {R : Type} (cp : Nat → Nat → Bool) : Nat → Int → Int → Int → (Int → Int → Option R) → Option R
  | 0, _, _, _, _ => none
  | n + 1, p0, p1, p2, k =>
    s_math_bits_Div64_33 cp n p0 p1 p2 (fun v112 v113 => k v112 v113)
/-! tideway/seq.MulDiv -/
def G_seq_MulDiv {R : Type} (cp : Nat → Nat → Bool) : Nat → Int → Int → Int → (Int → Int → Option R) → Option R
  | 0, _, _, _, _ => none
  | n + 1, p0, p1, p2, k =>
    cond (decide (p0 < 0)) (k 0 2) (cond (decide (p1 < 0)) (k 0 2) (cond (decide (p2 ≤ 0)) (k 0 2) (G_math_bits_Mul64 cp n (wr .u64 p0) (wr .u64 p1) (fun r63 r64 => cond (decide ((wr .u64 p2) ≤ r63)) (k 9223372036854775807 0) (G_math_bits_Div64 cp n r63 r64 (wr .u64 p2) (fun r114 r115 => k (wr .i64 (mn r114 9223372036854775807)) 0))))))
/-! tideway/cubic.by -/
def G_cubic_by {R : Type} (cp : Nat → Nat → Bool) : Nat → Int → Int → Int → (Int → Option R) → Option R
  | 0, _, _, _, _ => none
  | n + 1, p0, p1, p2, k =>
    G_seq_MulDiv cp n p0 p1 p2 (fun r116 r117 => k r116)
/-! tideway/seq.Cbrt -/
def s_seq_Cbrt_1 {R : Type} (cp : Nat → Nat → Bool) (n : Nat) (p0 : Int) (kn : Option R) : Option R :=
  kn
def s_seq_Cbrt_3 {R : Type} (cp : Nat → Nat → Bool) (n : Nat) (p0 : Int) (kn : Option R) : Option R :=
  kn
def s_seq_Cbrt_5 {R : Type} (cp : Nat → Nat → Bool) (n : Nat) (p0 v119 v120 : Int) (kn : Int → Int → Option R) (ke0 : Option R) : Option R :=
  cond (decide (v120 < 21)) (cond (decide ((wr .i64 (20 - v120)) < 0)) (none) (cond (decide ((wr .i64 ((wr .i64 ((bits .or .i64 v119 (shl .i64 1 (wr .i64 (20 - v120)))) * (bits .or .i64 v119 (shl .i64 1 (wr .i64 (20 - v120)))))) * (bits .or .i64 v119 (shl .i64 1 (wr .i64 (20 - v120)))))) ≤ p0)) (kn (bits .or .i64 v119 (shl .i64 1 (wr .i64 (20 - v120)))) (wr .i64 (v120 + 1))) (kn v119 (wr .i64 (v120 + 1))))) (ke0)
def l_seq_Cbrt_10 {R : Type} (cp : Nat → Nat → Bool) (n : Nat) : Nat → Int → Int → Int → (Int → Option R) → Option R
  | 0, _, _, _, _ => none
  | m + 1, p0, v119, v120, ke0 =>
    s_seq_Cbrt_5 cp n p0 v119 v120 (fun v121 v122 => l_seq_Cbrt_10 cp n m p0 v121 v122 ke0) (ke0 v119)
def s_seq_Cbrt_11 {R : Type} (cp : Nat → Nat → Bool) (n : Nat) (p0 : Int) (ke0 : Int → Option R) : Option R :=
  l_seq_Cbrt_10 cp n n p0 0 0 ke0
def s_seq_Cbrt_13 {R : Type} (cp : Nat → Nat → Bool) (n : Nat) (p0 : Int) (kn : Int → Option R) : Option R :=
  s_seq_Cbrt_11 cp n p0 (fun v123 => (kn v123))
def s_seq_Cbrt_15 {R : Type} (cp : Nat → Nat → Bool) (n : Nat) (p0 : Int) (kn : Int → Option R) : Option R :=
  s_seq_Cbrt_3 cp n p0 (s_seq_Cbrt_13 cp n p0 (fun v124 => (kn v124)))
def s_seq_Cbrt_16 {R : Type} (cp : Nat → Nat → Bool) (n : Nat) (v125 : Int) (kr : Option R) : Option R :=
  kr
def s_seq_Cbrt_19 {R : Type} (cp : Nat → Nat → Bool) (n : Nat) (p0 : Int) (kr : Int → Option R) : Option R :=
  s_seq_Cbrt_15 cp n p0 (fun v125 => s_seq_Cbrt_16 cp n v125 (kr v125))
def s_seq_Cbrt_21 {R : Type} (cp : Nat → Nat → Bool) (n : Nat) (p0 : Int) (kr : Int → Option R) : Option R :=
  s_seq_Cbrt_1 cp n p0 (s_seq_Cbrt_19 cp n p0 (fun v126 => (kr v126)))
def G_seq_Cbrt {R : Type} (cp : Nat → Nat → Bool) : Nat → Int → (Int → Option R) → Option R
  | 0, _, _ => none
  | n + 1, p0, k =>
    s_seq_Cbrt_21 cp n p0 (fun v127 => k v127)
/-! (*tideway/cubic.ctl).begin -/
def G_cubic_ctl_begin {R : Type} (cp : Nat → Nat → Bool) : Nat → Int → Sctl → (Sctl → Option R) → Option R
  | 0, _, _, _ => none
  | n + 1, p1, q0, k =>
    cond (decide (q0.xCc_Cwnd < q0.xCc_Wmax)) (G_cubic_by cp n (wr .i64 (q0.xCc_Wmax - q0.xCc_Cwnd)) 10000000000 (wr .i64 (4 * q0.xCc_Mss)) (fun r118 => G_seq_Cbrt cp n r118 (fun r128 => k (Sctl.mk q0.xCc_Kind q0.xCc_Mss q0.xCc_Cwnd q0.xCc_Ssthresh q0.xCc_Acc q0.xCc_Wmax p1 r128 q0.xCc_Cwnd q0.xCc_Cwnd q0.xCc_Mode q0.xCc_Bw q0.xCc_MinRtt q0.xCc_MinAt q0.xCc_Round q0.xCc_NextAt q0.xCc_Full q0.xCc_FullN q0.xCc_Phase q0.xCc_PhaseAt q0.xCc_DoneAt q0.xCc_Prior)))) (k (Sctl.mk q0.xCc_Kind q0.xCc_Mss q0.xCc_Cwnd q0.xCc_Ssthresh q0.xCc_Acc q0.xCc_Cwnd p1 0 q0.xCc_Cwnd q0.xCc_Cwnd q0.xCc_Mode q0.xCc_Bw q0.xCc_MinRtt q0.xCc_MinAt q0.xCc_Round q0.xCc_NextAt q0.xCc_Full q0.xCc_FullN q0.xCc_Phase q0.xCc_PhaseAt q0.xCc_DoneAt q0.xCc_Prior))
/-! tideway/seq.Sum -/
def G_seq_Sum {R : Type} (cp : Nat → Nat → Bool) : Nat → Int → Int → (Int → Option R) → Option R
  | 0, _, _, _ => none
  | n + 1, p0, p1, k =>
    cond (decide (0 < p0)) (cond (decide (0 < p1)) (cond (decide ((wr .i64 (p0 + p1)) < 0)) (k 9223372036854775807) (cond (decide (p0 < 0)) (cond (decide (p1 < 0)) (cond (decide (0 ≤ (wr .i64 (p0 + p1)))) (k (-9223372036854775808)) (k (wr .i64 (p0 + p1)))) (k (wr .i64 (p0 + p1)))) (k (wr .i64 (p0 + p1))))) (cond (decide (p0 < 0)) (cond (decide (p1 < 0)) (cond (decide (0 ≤ (wr .i64 (p0 + p1)))) (k (-9223372036854775808)) (k (wr .i64 (p0 + p1)))) (k (wr .i64 (p0 + p1)))) (k (wr .i64 (p0 + p1))))) (cond (decide (p0 < 0)) (cond (decide (p1 < 0)) (cond (decide (0 ≤ (wr .i64 (p0 + p1)))) (k (-9223372036854775808)) (k (wr .i64 (p0 + p1)))) (k (wr .i64 (p0 + p1)))) (k (wr .i64 (p0 + p1))))
/-! tideway/seq.Clamp -/
def G_seq_Clamp {R : Type} (cp : Nat → Nat → Bool) : Nat → Int → Int → Int → (Int → Option R) → Option R
  | 0, _, _, _, _ => none
  | n + 1, p0, p1, p2, k =>
    k (mx p1 (mn p0 p2))
/-! tideway/cubic.Curve -/
def s_cubic_Curve_1 {R : Type} (cp : Nat → Nat → Bool) (n : Nat) (p0 : SCc) (p1 : Int) (kn : Int → Option R) (kr : Option R) : Option R :=
  G_cubic_Check cp n p0 (fun r141 => cond (!decide (r141 = 0)) (kr) (G_seq_Sum cp n p1 (wr .i64 (0 - p0.xK)) (fun r142 => G_seq_Clamp cp n r142 (-1000000) 1000000 (fun r143 => G_cubic_by cp n (wr .i64 ((wr .i64 ((mx r143 (wr .i64 (0 - r143))) * (mx r143 (wr .i64 (0 - r143))))) * (mx r143 (wr .i64 (0 - r143))))) (wr .i64 (4 * p0.xMss)) 10000000000 (fun r144 => cond (decide (r143 < 0)) (kn (wr .i64 (0 - r144))) (kn r144))))))
def s_cubic_Curve_4 {R : Type} (cp : Nat → Nat → Bool) (n : Nat) (p0 : SCc) (v145 : Int) (kr : Int → Option R) : Option R :=
  G_seq_Sum cp n p0.xWmax v145 (fun r146 => G_seq_Clamp cp n r146 0 1073741824 (fun r147 => kr r147))
def s_cubic_Curve_7 {R : Type} (cp : Nat → Nat → Bool) (n : Nat) (p0 : SCc) (p1 : Int) (kr : Int → Option R) : Option R :=
  s_cubic_Curve_1 cp n p0 p1 (fun v145 => s_cubic_Curve_4 cp n p0 v145 (fun v148 => (kr v148))) (kr 0)
def G_cubic_Curve {R : Type} (cp : Nat → Nat → Bool) : Nat → SCc → Int → (Int → Option R) → Option R
  | 0, _, _, _ => none
  | n + 1, p0, p1, k =>
    s_cubic_Curve_7 cp n p0 p1 (fun v149 => k v149)
/-! (*tideway/cubic.ctl).grow -/
def s_cubic_ctl_grow_1 {R : Type} (cp : Nat → Nat → Bool) (n : Nat) (p1 p2 p3 : Int) (q0 : Sctl) (kn : Int → SCc → Option R) : Option R :=
  cond (decide (q0.xCc_Epoch < 0)) (G_cubic_ctl_begin cp n p2 q0 (fun r64 => kn (wr .i64 (Int.tdiv (wr .i64 ((mx 0 (wr .i64 (p2 - r64.xCc_Epoch))) + p3)) 1000)) (SCc.mk r64.xCc_Kind r64.xCc_Mss r64.xCc_Cwnd r64.xCc_Ssthresh r64.xCc_Acc r64.xCc_Wmax r64.xCc_Epoch r64.xCc_K r64.xCc_West r64.xCc_Start r64.xCc_Mode r64.xCc_Bw r64.xCc_MinRtt r64.xCc_MinAt r64.xCc_Round r64.xCc_NextAt r64.xCc_Full r64.xCc_FullN r64.xCc_Phase r64.xCc_PhaseAt r64.xCc_DoneAt r64.xCc_Prior))) (kn (wr .i64 (Int.tdiv (wr .i64 ((mx 0 (wr .i64 (p2 - q0.xCc_Epoch))) + p3)) 1000)) (SCc.mk q0.xCc_Kind q0.xCc_Mss q0.xCc_Cwnd q0.xCc_Ssthresh q0.xCc_Acc q0.xCc_Wmax q0.xCc_Epoch q0.xCc_K q0.xCc_West q0.xCc_Start q0.xCc_Mode q0.xCc_Bw q0.xCc_MinRtt q0.xCc_MinAt q0.xCc_Round q0.xCc_NextAt q0.xCc_Full q0.xCc_FullN q0.xCc_Phase q0.xCc_PhaseAt q0.xCc_DoneAt q0.xCc_Prior))
def s_cubic_ctl_grow_3 {R : Type} (cp : Nat → Nat → Bool) (n : Nat) (p1 v65 : Int) (v66 : SCc) (kn : Int → Int → Option R) : Option R :=
  G_cubic_Curve cp n v66 v65 (fun r69 => G_seq_Clamp cp n r69 v66.xCwnd (wr .i64 (v66.xCwnd + (wr .i64 (Int.tdiv v66.xCwnd 2)))) (fun r70 => G_cubic_by cp n (wr .i64 (529 * v66.xMss)) p1 (wr .i64 (1000 * v66.xCwnd)) (fun r71 => G_seq_Sum cp n v66.xWest r71 (fun r72 => kn r70 (mn 1073741824 r72)))))
def s_cubic_ctl_grow_5 {R : Type} (cp : Nat → Nat → Bool) (n : Nat) (p1 : Int) (v66 : SCc) (v73 v74 : Int) (kn : Int → Option R) : Option R :=
  G_cubic_by cp n (wr .i64 (v73 - v66.xCwnd)) p1 v66.xCwnd (fun r75 => G_seq_Sum cp n v66.xCwnd r75 (fun r76 => kn (mn 1073741824 (mx v74 r76))))
def s_cubic_ctl_grow_8 {R : Type} (cp : Nat → Nat → Bool) (n : Nat) (p1 v65 : Int) (v66 : SCc) (kn : Int → Int → Option R) : Option R :=
  s_cubic_ctl_grow_3 cp n p1 v65 v66 (fun v73 v74 => s_cubic_ctl_grow_5 cp n p1 v66 v73 v74 (fun v77 => (kn v77 v74)))
def s_cubic_ctl_grow_10 {R : Type} (cp : Nat → Nat → Bool) (n : Nat) (p1 p2 p3 : Int) (q0 : Sctl) (kn : SCc → Option R) : Option R :=
  s_cubic_ctl_grow_1 cp n p1 p2 p3 q0 (fun v65 v66 => s_cubic_ctl_grow_8 cp n p1 v65 v66 (fun v78 v79 => (kn (SCc.mk v66.xKind v66.xMss v78 v66.xSsthresh v66.xAcc v66.xWmax v66.xEpoch v66.xK v79 v66.xStart v66.xMode v66.xBw v66.xMinRtt v66.xMinAt v66.xRound v66.xNextAt v66.xFull v66.xFullN v66.xPhase v66.xPhaseAt v66.xDoneAt v66.xPrior))))
def G_cubic_ctl_grow {R : Type} (cp : Nat → Nat → Bool) : Nat → Int → Int → Int → Sctl → (Sctl → Option R) → Option R
  | 0, _, _, _, _, _ => none
  | n + 1, p1, p2, p3, q0, k =>
    s_cubic_ctl_grow_10 cp n p1 p2 p3 q0 (fun v80 => k (Sctl.mk v80.xKind v80.xMss v80.xCwnd v80.xSsthresh v80.xAcc v80.xWmax v80.xEpoch v80.xK v80.xWest v80.xStart v80.xMode v80.xBw v80.xMinRtt v80.xMinAt v80.xRound v80.xNextAt v80.xFull v80.xFullN v80.xPhase v80.xPhaseAt v80.xDoneAt v80.xPrior))
/-! tideway/cubic.Acked -/
def G_cubic_Acked {R : Type} (cp : Nat → Nat → Bool) : Nat → SCc → Int → Int → Int → Bool → (SCc → Int → Option R) → Option R
  | 0, _, _, _, _, _, _ => none
  | n + 1, p0, p1, p2, p3, p4, k =>
    G_cubic_Check cp n p0 (fun r61 => cond (!decide (r61 = 0)) (k (SCc.mk 0 0 0 0 0 0 0 0 0 0 0 [] 0 0 0 0 0 0 0 0 0 0) r61) (G_cubic_size cp n [p1] (fun r62 => cond (!r62) (k (SCc.mk 0 0 0 0 0 0 0 0 0 0 0 [] 0 0 0 0 0 0 0 0 0 0) 2) (cond (decide (p2 < 0)) (k (SCc.mk 0 0 0 0 0 0 0 0 0 0 0 [] 0 0 0 0 0 0 0 0 0 0) 2) (cond (decide (1125899906842624 < p2)) (k (SCc.mk 0 0 0 0 0 0 0 0 0 0 0 [] 0 0 0 0 0 0 0 0 0 0) 2) (cond (decide (p3 < 0)) (k (SCc.mk 0 0 0 0 0 0 0 0 0 0 0 [] 0 0 0 0 0 0 0 0 0 0) 2) (cond (decide (1125899906842624 < p3)) (k (SCc.mk 0 0 0 0 0 0 0 0 0 0 0 [] 0 0 0 0 0 0 0 0 0 0) 2) (cond (p4) (k (SCc.mk p0.xKind p0.xMss p0.xCwnd p0.xSsthresh p0.xAcc p0.xWmax (-1) p0.xK p0.xWest p0.xStart p0.xMode p0.xBw p0.xMinRtt p0.xMinAt p0.xRound p0.xNextAt p0.xFull p0.xFullN p0.xPhase p0.xPhaseAt p0.xDoneAt p0.xPrior) 0) (cond (decide (p0.xCwnd < p0.xSsthresh)) (k (SCc.mk p0.xKind p0.xMss (mn 1073741824 (wr .i64 (p0.xCwnd + (mn p1 p0.xMss)))) p0.xSsthresh p0.xAcc p0.xWmax p0.xEpoch p0.xK p0.xWest p0.xStart p0.xMode p0.xBw p0.xMinRtt p0.xMinAt p0.xRound p0.xNextAt p0.xFull p0.xFullN p0.xPhase p0.xPhaseAt p0.xDoneAt p0.xPrior) 0) (G_cubic_ctl_grow cp n p1 p2 p3 (Sctl.mk p0.xKind p0.xMss p0.xCwnd p0.xSsthresh p0.xAcc p0.xWmax p0.xEpoch p0.xK p0.xWest p0.xStart p0.xMode p0.xBw p0.xMinRtt p0.xMinAt p0.xRound p0.xNextAt p0.xFull p0.xFullN p0.xPhase p0.xPhaseAt p0.xDoneAt p0.xPrior) (fun r81 => k (SCc.mk r81.xCc_Kind r81.xCc_Mss r81.xCc_Cwnd r81.xCc_Ssthresh r81.xCc_Acc r81.xCc_Wmax r81.xCc_Epoch r81.xCc_K r81.xCc_West r81.xCc_Start r81.xCc_Mode r81.xCc_Bw r81.xCc_MinRtt r81.xCc_MinAt r81.xCc_Round r81.xCc_NextAt r81.xCc_Full r81.xCc_FullN r81.xCc_Phase r81.xCc_PhaseAt r81.xCc_DoneAt r81.xCc_Prior) 0)))))))))))
/-! tideway/tidewaylaw16.heads -/
def s_law16_heads_1 {R : Type} (cp : Nat → Nat → Bool) (n : Nat) (kn : Int → Int → Int → SCc → SCc → Option R) : Option R :=
  G_cubic_Acked cp n (SCc.mk 2 10 70 70 0 100 (-1) 0 0 0 0 [] 0 0 0 0 0 0 0 0 0 0) 10 5 0 false (fun r67 r68 => G_cubic_Loss cp n (SCc.mk 2 10 70 70 0 100 (-1) 0 0 0 0 [] 0 0 0 0 0 0 0 0 0 0) 0 (fun r69 r70 => G_cubic_New cp n 0 1 (fun r71 r72 => kn r68 r70 r72 r67 r69)))
def s_law16_heads_3 {R : Type} (cp : Nat → Nat → Bool) (n : Nat) (v73 v74 v75 : Int) (v76 v77 : SCc) (kr : Bool → Option R) : Option R :=
  cond (decide (v73 = 0)) (cond (decide (v76.xK = 1957)) (cond (decide (v76.xEpoch = 5)) (G_cubic_Curve cp n v76 1957 (fun r78 => cond (decide (r78 = 100)) (G_cubic_Curve cp n v76 0 (fun r79 => cond (decide (r79 = 71)) (cond (decide (v74 = 0)) (cond (decide (v77.xWmax = 59)) (cond (decide (v77.xSsthresh = 49)) (cond (decide (v75 = 2)) (G_cubic_Check cp n (SCc.mk 0 0 0 0 0 0 0 0 0 0 0 [] 0 0 0 0 0 0 0 0 0 0) (fun r80 => kr (decide (r80 = 230)))) (kr false)) (kr false)) (kr false)) (kr false)) (kr false))) (kr false))) (kr false)) (kr false)) (kr false)
def s_law16_heads_6 {R : Type} (cp : Nat → Nat → Bool) (n : Nat) (kr : Bool → Option R) : Option R :=
  s_law16_heads_1 cp n (fun v73 v74 v75 v76 v77 => s_law16_heads_3 cp n v73 v74 v75 v76 v77 (fun v81 => (kr v81)))
def G_law16_heads {R : Type} (cp : Nat → Nat → Bool) : Nat → (Bool → Option R) → Option R
  | 0, _ => none
  | n + 1, k =>
    s_law16_heads_6 cp n (fun v82 => k v82)
/-! tideway/tidewaylaw16.CubicFalls -/
def s_law16_CubicFalls_1 {R : Type} (cp : Nat → Nat → Bool) (n : Nat) (p0 : SCc) (p1 p2 : Int) (kn : Int → Int → Int → Int → SCc → SCc → SCc → SCc → Option R) : Option R :=
  G_cubic_Loss cp n p0 p1 (fun r13 r14 => G_ref16_Loss cp n p0 p1 (fun r15 r16 => G_cubic_Timeout cp n p0 p1 (fun r17 r18 => G_ref16_Timeout cp n p0 p1 (fun r19 r20 => kn r14 r16 r18 r20 r13 r15 r17 r19))))
def s_law16_CubicFalls_3 {R : Type} (cp : Nat → Nat → Bool) (n : Nat) (p0 : SCc) (p1 p2 v21 v22 v23 v24 : Int) (v25 v26 v27 v28 : SCc) (kn : Int → Int → Int → Int → SCc → SCc → SCc → SCc → Option R) : Option R :=
  G_cubic_Done cp n p0 (fun r41 r42 => G_ref16_Done cp n p0 (fun r43 r44 => G_cubic_New cp n p1 p2 (fun r45 r46 => G_ref16_New cp n p1 p2 (fun r47 r48 => kn r42 r44 r46 r48 r41 r43 r45 r47))))
def s_law16_CubicFalls_5 {R : Type} (cp : Nat → Nat → Bool) (n : Nat) (v21 v22 v23 v24 : Int) (v25 v26 v27 v28 : SCc) (v49 v50 v51 v52 : Int) (v53 v54 v55 v56 : SCc) (kn : Bool → Option R) : Option R :=
  G_ref15_Same cp n v25 v26 (fun r57 => cond (r57) (cond (decide (v21 = v22)) (G_ref15_Same cp n v27 v28 (fun r58 => cond (r58) (cond (decide (v23 = v24)) (G_ref15_Same cp n v53 v54 (fun r59 => cond (r59) (cond (decide (v49 = v50)) (G_ref15_Same cp n v55 v56 (fun r60 => cond (r60) (cond (decide (v51 = v52)) (G_law16_heads cp n (fun r61 => kn r61)) (kn false)) (kn false))) (kn false)) (kn false))) (kn false)) (kn false))) (kn false)) (kn false))
def s_law16_CubicFalls_7 {R : Type} (cp : Nat → Nat → Bool) (n : Nat) (v62 : Bool) (kr : Option R) : Option R :=
  kr
def s_law16_CubicFalls_9 {R : Type} (cp : Nat → Nat → Bool) (n : Nat) (v21 v22 v23 v24 : Int) (v25 v26 v27 v28 : SCc) (v49 v50 v51 v52 : Int) (v53 v54 v55 v56 : SCc) (kr : Bool → Option R) : Option R :=
  s_law16_CubicFalls_5 cp n v21 v22 v23 v24 v25 v26 v27 v28 v49 v50 v51 v52 v53 v54 v55 v56 (fun v62 => s_law16_CubicFalls_7 cp n v62 (kr v62))
def s_law16_CubicFalls_11 {R : Type} (cp : Nat → Nat → Bool) (n : Nat) (p0 : SCc) (p1 p2 v21 v22 v23 v24 : Int) (v25 v26 v27 v28 : SCc) (kr : Bool → Option R) : Option R :=
  s_law16_CubicFalls_3 cp n p0 p1 p2 v21 v22 v23 v24 v25 v26 v27 v28 (fun v49 v50 v51 v52 v53 v54 v55 v56 => s_law16_CubicFalls_9 cp n v21 v22 v23 v24 v25 v26 v27 v28 v49 v50 v51 v52 v53 v54 v55 v56 (fun v63 => (kr v63)))
def s_law16_CubicFalls_13 {R : Type} (cp : Nat → Nat → Bool) (n : Nat) (p0 : SCc) (p1 p2 : Int) (kr : Bool → Option R) : Option R :=
  s_law16_CubicFalls_1 cp n p0 p1 p2 (fun v21 v22 v23 v24 v25 v26 v27 v28 => s_law16_CubicFalls_11 cp n p0 p1 p2 v21 v22 v23 v24 v25 v26 v27 v28 (fun v64 => (kr v64)))
def G_law16_CubicFalls {R : Type} (cp : Nat → Nat → Bool) : Nat → SCc → Int → Int → (Bool → Option R) → Option R
  | 0, _, _, _, _ => none
  | n + 1, p0, p1, p2, k =>
    s_law16_CubicFalls_13 cp n p0 p1 p2 (fun v65 => k v65)
def ca_reno_size {R : Type} (cp : Nat → Nat → Bool) (n : Nat) (av : Fr) (cs : List Fr) (k : Ret2 RW → Option R) : Option R := match av, cs with
  | [y0], [] => (dI .i64 y0).bind fun p0 => G_reno_size cp n p0 (fun r0 => k ⟨(tB r0), []⟩)
  | _, _ => none
def ca_reno_ctl_plain {R : Type} (cp : Nat → Nat → Bool) (n : Nat) (av : Fr) (cs : List Fr) (k : Ret2 RW → Option R) : Option R := match av, cs with
  | [y0], [w0] => (dP 138 0 y0).bind fun _ => (dT68 w0).bind fun q0 => G_reno_ctl_plain cp n q0 (fun r0 r1 => k ⟨(tB r0), [(eT68 r1)]⟩)
  | _, _ => none
def ca_reno_Check {R : Type} (cp : Nat → Nat → Bool) (n : Nat) (av : Fr) (cs : List Fr) (k : Ret2 RW → Option R) : Option R := match av, cs with
  | [y0], [] => (dA y0).bind fun c0_ => (dCc c0_).bind fun p0 => G_reno_Check cp n p0 (fun r0 => k ⟨(tL r0), []⟩)
  | _, _ => none
def ca_cubic_size {R : Type} (cp : Nat → Nat → Bool) (n : Nat) (av : Fr) (cs : List Fr) (k : Ret2 RW → Option R) : Option R := match av, cs with
  | [y0], [] => (dRint false y0).bind fun p0 => G_cubic_size cp n p0 (fun r0 => k ⟨(tB r0), []⟩)
  | _, _ => none
def ca_cubic_Check {R : Type} (cp : Nat → Nat → Bool) (n : Nat) (av : Fr) (cs : List Fr) (k : Ret2 RW → Option R) : Option R := match av, cs with
  | [y0], [] => (dA y0).bind fun c0_ => (dCc c0_).bind fun p0 => G_cubic_Check cp n p0 (fun r0 => k ⟨(tL r0), []⟩)
  | _, _ => none
def ca_cubic_ctl_fall {R : Type} (cp : Nat → Nat → Bool) (n : Nat) (av : Fr) (cs : List Fr) (k : Ret2 RW → Option R) : Option R := match av, cs with
  | [y0], [w0] => (dP 57 0 y0).bind fun _ => (dctl w0).bind fun q0 => G_cubic_ctl_fall cp n q0 (fun r0 => k ⟨.tup [], [(ectl r0)]⟩)
  | _, _ => none
def ca_cubic_moved {R : Type} (cp : Nat → Nat → Bool) (n : Nat) (av : Fr) (cs : List Fr) (k : Ret2 RW → Option R) : Option R := match av, cs with
  | [y0, y1, y2], [] => (dA y0).bind fun c0_ => (dCc c0_).bind fun p0 => (dI .i64 y1).bind fun p1 => (dC 40 [] y2).bind fun _ => G_cubic_moved cp n p0 p1 (fun r0 r1 => k ⟨.tup [.agg (eCc r0), (tL r1)], []⟩)
  | _, _ => none
def ca_cubic_Loss {R : Type} (cp : Nat → Nat → Bool) (n : Nat) (av : Fr) (cs : List Fr) (k : Ret2 RW → Option R) : Option R := match av, cs with
  | [y0, y1], [] => (dA y0).bind fun c0_ => (dCc c0_).bind fun p0 => (dI .i64 y1).bind fun p1 => G_cubic_Loss cp n p0 p1 (fun r0 r1 => k ⟨.tup [.agg (eCc r0), (tL r1)], []⟩)
  | _, _ => none
def ca_ref15_Size {R : Type} (cp : Nat → Nat → Bool) (n : Nat) (av : Fr) (cs : List Fr) (k : Ret2 RW → Option R) : Option R := match av, cs with
  | [y0], [] => (dI .i64 y0).bind fun p0 => G_ref15_Size cp n p0 (fun r0 => k ⟨(tB r0), []⟩)
  | _, _ => none
def ca_ref15_Common {R : Type} (cp : Nat → Nat → Bool) (n : Nat) (av : Fr) (cs : List Fr) (k : Ret2 RW → Option R) : Option R := match av, cs with
  | [y0], [] => (dA y0).bind fun c0_ => (dCc c0_).bind fun p0 => G_ref15_Common cp n p0 (fun r0 => k ⟨(tB r0), []⟩)
  | _, _ => none
def ca_ref15_Plain {R : Type} (cp : Nat → Nat → Bool) (n : Nat) (av : Fr) (cs : List Fr) (k : Ret2 RW → Option R) : Option R := match av, cs with
  | [y0, y1, y2], [] => (dA y0).bind fun c0_ => (dCc c0_).bind fun p0 => (dB y1).bind fun p1 => (dB y2).bind fun p2 => G_ref15_Plain cp n p0 p1 p2 (fun r0 => k ⟨(tB r0), []⟩)
  | _, _ => none
def ca_ref16_Check {R : Type} (cp : Nat → Nat → Bool) (n : Nat) (av : Fr) (cs : List Fr) (k : Ret2 RW → Option R) : Option R := match av, cs with
  | [y0], [] => (dA y0).bind fun c0_ => (dCc c0_).bind fun p0 => G_ref16_Check cp n p0 (fun r0 => k ⟨(tL r0), []⟩)
  | _, _ => none
def ca_ref16_Loss {R : Type} (cp : Nat → Nat → Bool) (n : Nat) (av : Fr) (cs : List Fr) (k : Ret2 RW → Option R) : Option R := match av, cs with
  | [y0, y1], [] => (dA y0).bind fun c0_ => (dCc c0_).bind fun p0 => (dI .i64 y1).bind fun p1 => G_ref16_Loss cp n p0 p1 (fun r0 r1 => k ⟨.tup [.agg (eCc r0), (tL r1)], []⟩)
  | _, _ => none
def ca_cubic_ctl_shut {R : Type} (cp : Nat → Nat → Bool) (n : Nat) (av : Fr) (cs : List Fr) (k : Ret2 RW → Option R) : Option R := match av, cs with
  | [y0], [w0] => (dP 13 0 y0).bind fun _ => (dctl w0).bind fun q0 => G_cubic_ctl_shut cp n q0 (fun r0 => k ⟨.tup [], [(ectl r0)]⟩)
  | _, _ => none
def ca_cubic_moved_b {R : Type} (cp : Nat → Nat → Bool) (n : Nat) (av : Fr) (cs : List Fr) (k : Ret2 RW → Option R) : Option R := match av, cs with
  | [y0, y1, y2], [] => (dA y0).bind fun c0_ => (dCc c0_).bind fun p0 => (dI .i64 y1).bind fun p1 => (dC 42 [] y2).bind fun _ => G_cubic_moved_b cp n p0 p1 (fun r0 r1 => k ⟨.tup [.agg (eCc r0), (tL r1)], []⟩)
  | _, _ => none
def ca_cubic_Timeout {R : Type} (cp : Nat → Nat → Bool) (n : Nat) (av : Fr) (cs : List Fr) (k : Ret2 RW → Option R) : Option R := match av, cs with
  | [y0, y1], [] => (dA y0).bind fun c0_ => (dCc c0_).bind fun p0 => (dI .i64 y1).bind fun p1 => G_cubic_Timeout cp n p0 p1 (fun r0 r1 => k ⟨.tup [.agg (eCc r0), (tL r1)], []⟩)
  | _, _ => none
def ca_ref16_Timeout {R : Type} (cp : Nat → Nat → Bool) (n : Nat) (av : Fr) (cs : List Fr) (k : Ret2 RW → Option R) : Option R := match av, cs with
  | [y0, y1], [] => (dA y0).bind fun c0_ => (dCc c0_).bind fun p0 => (dI .i64 y1).bind fun p1 => G_ref16_Timeout cp n p0 p1 (fun r0 r1 => k ⟨.tup [.agg (eCc r0), (tL r1)], []⟩)
  | _, _ => none
def ca_cubic_ctl_done {R : Type} (cp : Nat → Nat → Bool) (n : Nat) (av : Fr) (cs : List Fr) (k : Ret2 RW → Option R) : Option R := match av, cs with
  | [y0], [w0] => (dP 11 0 y0).bind fun _ => (dctl w0).bind fun q0 => G_cubic_ctl_done cp n q0 (fun r0 => k ⟨.tup [], [(ectl r0)]⟩)
  | _, _ => none
def ca_cubic_moved_b_b {R : Type} (cp : Nat → Nat → Bool) (n : Nat) (av : Fr) (cs : List Fr) (k : Ret2 RW → Option R) : Option R := match av, cs with
  | [y0, y1, y2], [] => (dA y0).bind fun c0_ => (dCc c0_).bind fun p0 => (dI .i64 y1).bind fun p1 => (dC 41 [] y2).bind fun _ => G_cubic_moved_b_b cp n p0 p1 (fun r0 r1 => k ⟨.tup [.agg (eCc r0), (tL r1)], []⟩)
  | _, _ => none
def ca_cubic_Done {R : Type} (cp : Nat → Nat → Bool) (n : Nat) (av : Fr) (cs : List Fr) (k : Ret2 RW → Option R) : Option R := match av, cs with
  | [y0], [] => (dA y0).bind fun c0_ => (dCc c0_).bind fun p0 => G_cubic_Done cp n p0 (fun r0 r1 => k ⟨.tup [.agg (eCc r0), (tL r1)], []⟩)
  | _, _ => none
def ca_ref16_Done {R : Type} (cp : Nat → Nat → Bool) (n : Nat) (av : Fr) (cs : List Fr) (k : Ret2 RW → Option R) : Option R := match av, cs with
  | [y0], [] => (dA y0).bind fun c0_ => (dCc c0_).bind fun p0 => G_ref16_Done cp n p0 (fun r0 r1 => k ⟨.tup [.agg (eCc r0), (tL r1)], []⟩)
  | _, _ => none
def ca_reno_New {R : Type} (cp : Nat → Nat → Bool) (n : Nat) (av : Fr) (cs : List Fr) (k : Ret2 RW → Option R) : Option R := match av, cs with
  | [y0, y1], [] => (dI .i64 y0).bind fun p0 => (dI .i64 y1).bind fun p1 => G_reno_New cp n p0 p1 (fun r0 r1 => k ⟨.tup [.agg (eCc r0), (tL r1)], []⟩)
  | _, _ => none
def ca_cubic_New {R : Type} (cp : Nat → Nat → Bool) (n : Nat) (av : Fr) (cs : List Fr) (k : Ret2 RW → Option R) : Option R := match av, cs with
  | [y0, y1], [] => (dI .i64 y0).bind fun p0 => (dI .i64 y1).bind fun p1 => G_cubic_New cp n p0 p1 (fun r0 r1 => k ⟨.tup [.agg (eCc r0), (tL r1)], []⟩)
  | _, _ => none
def ca_ref15_New {R : Type} (cp : Nat → Nat → Bool) (n : Nat) (av : Fr) (cs : List Fr) (k : Ret2 RW → Option R) : Option R := match av, cs with
  | [y0, y1], [] => (dI .i64 y0).bind fun p0 => (dI .i64 y1).bind fun p1 => G_ref15_New cp n p0 p1 (fun r0 r1 => k ⟨.tup [.agg (eCc r0), (tL r1)], []⟩)
  | _, _ => none
def ca_ref16_New {R : Type} (cp : Nat → Nat → Bool) (n : Nat) (av : Fr) (cs : List Fr) (k : Ret2 RW → Option R) : Option R := match av, cs with
  | [y0, y1], [] => (dI .i64 y0).bind fun p0 => (dI .i64 y1).bind fun p1 => G_ref16_New cp n p0 p1 (fun r0 r1 => k ⟨.tup [.agg (eCc r0), (tL r1)], []⟩)
  | _, _ => none
def ca_ref15_Same {R : Type} (cp : Nat → Nat → Bool) (n : Nat) (av : Fr) (cs : List Fr) (k : Ret2 RW → Option R) : Option R := match av, cs with
  | [y0, y1], [] => (dA y0).bind fun c0_ => (dCc c0_).bind fun p0 => (dA y1).bind fun c1_ => (dCc c1_).bind fun p1 => G_ref15_Same cp n p0 p1 (fun r0 => k ⟨(tB r0), []⟩)
  | _, _ => none
def ca_math_bits_Mul64 {R : Type} (cp : Nat → Nat → Bool) (n : Nat) (av : Fr) (cs : List Fr) (k : Ret2 RW → Option R) : Option R := match av, cs with
  | [y0, y1], [] => (dI .u64 y0).bind fun p0 => (dI .u64 y1).bind fun p1 => G_math_bits_Mul64 cp n p0 p1 (fun r0 r1 => k ⟨.tup [(tI .u64 r0), (tI .u64 r1)], []⟩)
  | _, _ => none
def ca_math_bits_Len64 {R : Type} (cp : Nat → Nat → Bool) (n : Nat) (av : Fr) (cs : List Fr) (k : Ret2 RW → Option R) : Option R := match av, cs with
  | [y0], [] => (dI .u64 y0).bind fun p0 => G_math_bits_Len64 cp n p0 (fun r0 => k ⟨(tL r0), []⟩)
  | _, _ => none
def ca_math_bits_LeadingZeros64 {R : Type} (cp : Nat → Nat → Bool) (n : Nat) (av : Fr) (cs : List Fr) (k : Ret2 RW → Option R) : Option R := match av, cs with
  | [y0], [] => (dI .u64 y0).bind fun p0 => G_math_bits_LeadingZeros64 cp n p0 (fun r0 => k ⟨(tL r0), []⟩)
  | _, _ => none
def ca_math_bits_Div64 {R : Type} (cp : Nat → Nat → Bool) (n : Nat) (av : Fr) (cs : List Fr) (k : Ret2 RW → Option R) : Option R := match av, cs with
  | [y0, y1, y2], [] => (dI .u64 y0).bind fun p0 => (dI .u64 y1).bind fun p1 => (dI .u64 y2).bind fun p2 => G_math_bits_Div64 cp n p0 p1 p2 (fun r0 r1 => k ⟨.tup [(tI .u64 r0), (tI .u64 r1)], []⟩)
  | _, _ => none
def ca_seq_MulDiv {R : Type} (cp : Nat → Nat → Bool) (n : Nat) (av : Fr) (cs : List Fr) (k : Ret2 RW → Option R) : Option R := match av, cs with
  | [y0, y1, y2], [] => (dI .i64 y0).bind fun p0 => (dI .i64 y1).bind fun p1 => (dI .i64 y2).bind fun p2 => G_seq_MulDiv cp n p0 p1 p2 (fun r0 r1 => k ⟨.tup [(tL r0), (tL r1)], []⟩)
  | _, _ => none
def ca_cubic_by {R : Type} (cp : Nat → Nat → Bool) (n : Nat) (av : Fr) (cs : List Fr) (k : Ret2 RW → Option R) : Option R := match av, cs with
  | [y0, y1, y2], [] => (dI .i64 y0).bind fun p0 => (dI .i64 y1).bind fun p1 => (dI .i64 y2).bind fun p2 => G_cubic_by cp n p0 p1 p2 (fun r0 => k ⟨(tL r0), []⟩)
  | _, _ => none
def ca_seq_Cbrt {R : Type} (cp : Nat → Nat → Bool) (n : Nat) (av : Fr) (cs : List Fr) (k : Ret2 RW → Option R) : Option R := match av, cs with
  | [y0], [] => (dI .i64 y0).bind fun p0 => G_seq_Cbrt cp n p0 (fun r0 => k ⟨(tL r0), []⟩)
  | _, _ => none
def ca_cubic_ctl_begin {R : Type} (cp : Nat → Nat → Bool) (n : Nat) (av : Fr) (cs : List Fr) (k : Ret2 RW → Option R) : Option R := match av, cs with
  | [y0, y1], [w0] => (dP 74 0 y0).bind fun _ => (dI .i64 y1).bind fun p1 => (dctl w0).bind fun q0 => G_cubic_ctl_begin cp n p1 q0 (fun r0 => k ⟨.tup [], [(ectl r0)]⟩)
  | _, _ => none
def ca_seq_Sum {R : Type} (cp : Nat → Nat → Bool) (n : Nat) (av : Fr) (cs : List Fr) (k : Ret2 RW → Option R) : Option R := match av, cs with
  | [y0, y1], [] => (dI .i64 y0).bind fun p0 => (dI .i64 y1).bind fun p1 => G_seq_Sum cp n p0 p1 (fun r0 => k ⟨(tL r0), []⟩)
  | _, _ => none
def ca_seq_Clamp {R : Type} (cp : Nat → Nat → Bool) (n : Nat) (av : Fr) (cs : List Fr) (k : Ret2 RW → Option R) : Option R := match av, cs with
  | [y0, y1, y2], [] => (dI .i64 y0).bind fun p0 => (dI .i64 y1).bind fun p1 => (dI .i64 y2).bind fun p2 => G_seq_Clamp cp n p0 p1 p2 (fun r0 => k ⟨(tL r0), []⟩)
  | _, _ => none
def ca_cubic_Curve {R : Type} (cp : Nat → Nat → Bool) (n : Nat) (av : Fr) (cs : List Fr) (k : Ret2 RW → Option R) : Option R := match av, cs with
  | [y0, y1], [] => (dA y0).bind fun c0_ => (dCc c0_).bind fun p0 => (dI .i64 y1).bind fun p1 => G_cubic_Curve cp n p0 p1 (fun r0 => k ⟨(tL r0), []⟩)
  | _, _ => none
def ca_cubic_ctl_grow {R : Type} (cp : Nat → Nat → Bool) (n : Nat) (av : Fr) (cs : List Fr) (k : Ret2 RW → Option R) : Option R := match av, cs with
  | [y0, y1, y2, y3], [w0] => (dP 110 0 y0).bind fun _ => (dI .i64 y1).bind fun p1 => (dI .i64 y2).bind fun p2 => (dI .i64 y3).bind fun p3 => (dctl w0).bind fun q0 => G_cubic_ctl_grow cp n p1 p2 p3 q0 (fun r0 => k ⟨.tup [], [(ectl r0)]⟩)
  | _, _ => none
def ca_cubic_Acked {R : Type} (cp : Nat → Nat → Bool) (n : Nat) (av : Fr) (cs : List Fr) (k : Ret2 RW → Option R) : Option R := match av, cs with
  | [y0, y1, y2, y3, y4], [] => (dA y0).bind fun c0_ => (dCc c0_).bind fun p0 => (dI .i64 y1).bind fun p1 => (dI .i64 y2).bind fun p2 => (dI .i64 y3).bind fun p3 => (dB y4).bind fun p4 => G_cubic_Acked cp n p0 p1 p2 p3 p4 (fun r0 r1 => k ⟨.tup [.agg (eCc r0), (tL r1)], []⟩)
  | _, _ => none
def ca_law16_heads {R : Type} (cp : Nat → Nat → Bool) (n : Nat) (av : Fr) (cs : List Fr) (k : Ret2 RW → Option R) : Option R := match av, cs with
  | [], [] => G_law16_heads cp n (fun r0 => k ⟨(tB r0), []⟩)
  | _, _ => none
def ca_law16_CubicFalls {R : Type} (cp : Nat → Nat → Bool) (n : Nat) (av : Fr) (cs : List Fr) (k : Ret2 RW → Option R) : Option R := match av, cs with
  | [y0, y1, y2], [] => (dA y0).bind fun c0_ => (dCc c0_).bind fun p0 => (dI .i64 y1).bind fun p1 => (dI .i64 y2).bind fun p2 => G_law16_CubicFalls cp n p0 p1 p2 (fun r0 => k ⟨(tB r0), []⟩)
  | _, _ => none
def callP {R : Type} (cp : Nat → Nat → Bool) (n : Nat) (id : Nat) (av : Fr) (cs : List Fr) (k : Ret2 RW → Option R) : Option R := match id with
  | 45 => ca_reno_size cp n av cs k
  | 1006 => ca_reno_ctl_plain cp n av cs k
  | 32 => ca_reno_Check cp n av cs k
  | 24 => ca_cubic_size cp n av cs k
  | 11 => ca_cubic_Check cp n av cs k
  | 1008 => ca_cubic_ctl_fall cp n av cs k
  | 1002 => ca_cubic_moved cp n av cs k
  | 17 => ca_cubic_Loss cp n av cs k
  | 26 => ca_ref15_Size cp n av cs k
  | 33 => ca_ref15_Common cp n av cs k
  | 34 => ca_ref15_Plain cp n av cs k
  | 12 => ca_ref16_Check cp n av cs k
  | 19 => ca_ref16_Loss cp n av cs k
  | 1016 => ca_cubic_ctl_shut cp n av cs k
  | 1015 => ca_cubic_moved_b cp n av cs k
  | 20 => ca_cubic_Timeout cp n av cs k
  | 21 => ca_ref16_Timeout cp n av cs k
  | 1020 => ca_cubic_ctl_done cp n av cs k
  | 1019 => ca_cubic_moved_b_b cp n av cs k
  | 18 => ca_cubic_Done cp n av cs k
  | 22 => ca_ref16_Done cp n av cs k
  | 38 => ca_reno_New cp n av cs k
  | 16 => ca_cubic_New cp n av cs k
  | 43 => ca_ref15_New cp n av cs k
  | 23 => ca_ref16_New cp n av cs k
  | 10 => ca_ref15_Same cp n av cs k
  | 49 => ca_math_bits_Mul64 cp n av cs k
  | 52 => ca_math_bits_Len64 cp n av cs k
  | 51 => ca_math_bits_LeadingZeros64 cp n av cs k
  | 50 => ca_math_bits_Div64 cp n av cs k
  | 47 => ca_seq_MulDiv cp n av cs k
  | 37 => ca_cubic_by cp n av cs k
  | 48 => ca_seq_Cbrt cp n av cs k
  | 1030 => ca_cubic_ctl_begin cp n av cs k
  | 36 => ca_seq_Sum cp n av cs k
  | 35 => ca_seq_Clamp cp n av cs k
  | 13 => ca_cubic_Curve cp n av cs k
  | 1029 => ca_cubic_ctl_grow cp n av cs k
  | 8 => ca_cubic_Acked cp n av cs k
  | 15 => ca_law16_heads cp n av cs k
  | 7 => ca_law16_CubicFalls cp n av cs k
  | _ => none
end
end Go.Proofs.Ytliknmgcnipbkaa.M
