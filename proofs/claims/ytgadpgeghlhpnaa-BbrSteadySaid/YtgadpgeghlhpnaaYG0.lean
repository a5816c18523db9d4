/- The values of the program's functions, and the functions, plain. -/
import Derived.Test.YtgadpgeghlhpnaaMachX
set_option maxRecDepth 100000
set_option linter.unusedVariables false
namespace Go.Proofs.Ytgadpgeghlhpnaa.M
open Go
noncomputable section
def str_ : ByteArray := ⟨#[]⟩
def tab256_2793 : ByteArray := ⟨#[0, 1, 2, 2, 3, 3, 3, 3, 4, 4, 4, 4, 4, 4, 4, 4, 5, 5, 5, 5, 5, 5, 5, 5, 5, 5, 5, 5, 5, 5, 5, 5, 6, 6, 6, 6, 6, 6, 6, 6, 6, 6, 6, 6, 6, 6, 6, 6, 6, 6, 6, 6, 6, 6, 6, 6, 6, 6, 6, 6, 6, 6, 6, 6, 7, 7, 7, 7, 7, 7, 7, 7, 7, 7, 7, 7, 7, 7, 7, 7, 7, 7, 7, 7, 7, 7, 7, 7, 7, 7, 7, 7, 7, 7, 7, 7, 7, 7, 7, 7, 7, 7, 7, 7, 7, 7, 7, 7, 7, 7, 7, 7, 7, 7, 7, 7, 7, 7, 7, 7, 7, 7, 7, 7, 7, 7, 7, 7, 8, 8, 8, 8, 8, 8, 8, 8, 8, 8, 8, 8, 8, 8, 8, 8, 8, 8, 8, 8, 8, 8, 8, 8, 8, 8, 8, 8, 8, 8, 8, 8, 8, 8, 8, 8, 8, 8, 8, 8, 8, 8, 8, 8, 8, 8, 8, 8, 8, 8, 8, 8, 8, 8, 8, 8, 8, 8, 8, 8, 8, 8, 8, 8, 8, 8, 8, 8, 8, 8, 8, 8, 8, 8, 8, 8, 8, 8, 8, 8, 8, 8, 8, 8, 8, 8, 8, 8, 8, 8, 8, 8, 8, 8, 8, 8, 8, 8, 8, 8, 8, 8, 8, 8, 8, 8, 8, 8, 8, 8, 8, 8, 8, 8, 8, 8, 8, 8, 8, 8, 8, 8, 8, 8, 8, 8, 8, 8]⟩
structure SEntry where
  xAt : Int
  xV : Int
def zEntry : SEntry := ⟨0, 0⟩
structure SCc where
  xKind : Int
  xMss : Int
  xCwnd : Int
  xSsthresh : Int
  xAcc : Int
  xWmax : Int
  xEpoch : Int
  xK : Int
  xWest : Int
  xStart : Int
  xMode : Int
  xBw : (List SEntry)
  xMinRtt : Int
  xMinAt : Int
  xRound : Int
  xNextAt : Int
  xFull : Int
  xFullN : Int
  xPhase : Int
  xPhaseAt : Int
  xDoneAt : Int
  xPrior : Int
def zCc : SCc := ⟨0, 0, 0, 0, 0, 0, 0, 0, 0, 0, 0, [], 0, 0, 0, 0, 0, 0, 0, 0, 0, 0⟩
structure SSample where
  xNow : Int
  xAcked : Int
  xRtt : Int
  xRate : Int
  xIdle : Bool
  xGiven : Int
  xBefore : Int
  xFlight : Int
def zSample : SSample := ⟨0, 0, 0, 0, false, 0, 0, 0⟩
def zint : Int := 0
structure Sctl where
  xCc_Kind : Int
  xCc_Mss : Int
  xCc_Cwnd : Int
  xCc_Ssthresh : Int
  xCc_Acc : Int
  xCc_Wmax : Int
  xCc_Epoch : Int
  xCc_K : Int
  xCc_West : Int
  xCc_Start : Int
  xCc_Mode : Int
  xCc_Bw : (List SEntry)
  xCc_MinRtt : Int
  xCc_MinAt : Int
  xCc_Round : Int
  xCc_NextAt : Int
  xCc_Full : Int
  xCc_FullN : Int
  xCc_Phase : Int
  xCc_PhaseAt : Int
  xCc_DoneAt : Int
  xCc_Prior : Int
def zctl : Sctl := ⟨0, 0, 0, 0, 0, 0, 0, 0, 0, 0, 0, [], 0, 0, 0, 0, 0, 0, 0, 0, 0, 0⟩
inductive RW where
  | rEntry (xs : List SEntry)
  | rint (xs : List Int)

abbrev Fr := List (TV RW)
abbrev FF := FT RW
def tI (k : IntKind) (n : Int) : TV RW := .sc (.int k n)
def tL (n : Int) : TV RW := .sc (.int .i64 n)
def tB (b : Bool) : TV RW := .sc (.bool b)
def dT : Nat → Fr → Fr
  | 0, l => l
  | n + 1, l => .dead :: dT n l
def dc : Fr := dT 16 []
def eCc (x : SCc) : List (TV RW) := [(tL x.xKind), (tL x.xMss), (tL x.xCwnd), (tL x.xSsthresh), (tL x.xAcc), (tL x.xWmax), (tL x.xEpoch), (tL x.xK), (tL x.xWest), (tL x.xStart), (tL x.xMode), .row false (.rEntry x.xBw), (tL x.xMinRtt), (tL x.xMinAt), (tL x.xRound), (tL x.xNextAt), (tL x.xFull), (tL x.xFullN), (tL x.xPhase), (tL x.xPhaseAt), (tL x.xDoneAt), (tL x.xPrior)]
def eCct (x : SCc) : List (TV RW) := [(tL x.xKind), (tL x.xMss), (tL x.xCwnd), (tL x.xSsthresh), (tL x.xAcc), (tL x.xWmax), (tL x.xEpoch), (tL x.xK), (tL x.xWest), (tL x.xStart), (tL x.xMode), .row true (.rEntry x.xBw), (tL x.xMinRtt), (tL x.xMinAt), (tL x.xRound), (tL x.xNextAt), (tL x.xFull), (tL x.xFullN), (tL x.xPhase), (tL x.xPhaseAt), (tL x.xDoneAt), (tL x.xPrior)]
def eEntry (x : SEntry) : List (TV RW) := [(tL x.xAt), (tL x.xV)]
def eSample (x : SSample) : List (TV RW) := [(tL x.xNow), (tL x.xAcked), (tL x.xRtt), (tL x.xRate), (tB x.xIdle), (tL x.xGiven), (tL x.xBefore), (tL x.xFlight)]
def ectl (x : Sctl) : List (TV RW) := [(tL x.xCc_Kind), (tL x.xCc_Mss), (tL x.xCc_Cwnd), (tL x.xCc_Ssthresh), (tL x.xCc_Acc), (tL x.xCc_Wmax), (tL x.xCc_Epoch), (tL x.xCc_K), (tL x.xCc_West), (tL x.xCc_Start), (tL x.xCc_Mode), .row false (.rEntry x.xCc_Bw), (tL x.xCc_MinRtt), (tL x.xCc_MinAt), (tL x.xCc_Round), (tL x.xCc_NextAt), (tL x.xCc_Full), (tL x.xCc_FullN), (tL x.xCc_Phase), (tL x.xCc_PhaseAt), (tL x.xCc_DoneAt), (tL x.xCc_Prior)]
def ectlt (x : Sctl) : List (TV RW) := [(tL x.xCc_Kind), (tL x.xCc_Mss), (tL x.xCc_Cwnd), (tL x.xCc_Ssthresh), (tL x.xCc_Acc), (tL x.xCc_Wmax), (tL x.xCc_Epoch), (tL x.xCc_K), (tL x.xCc_West), (tL x.xCc_Start), (tL x.xCc_Mode), .row true (.rEntry x.xCc_Bw), (tL x.xCc_MinRtt), (tL x.xCc_MinAt), (tL x.xCc_Round), (tL x.xCc_NextAt), (tL x.xCc_Full), (tL x.xCc_FullN), (tL x.xCc_Phase), (tL x.xCc_PhaseAt), (tL x.xCc_DoneAt), (tL x.xCc_Prior)]
def eint (x : Int) : List (TV RW) := [(tL x)]
def cEntry (x : SEntry) : List AV := [.sc (.int .i64 x.xAt), .sc (.int .i64 x.xV)]
def cint (x : Int) : List AV := [.sc (.int .i64 x)]
def dOne : Fr → Option (TV RW)
  | [x] => some x
  | _ => none
def dI (kd : IntKind) : TV RW → Option Int
  | .sc (.int k a) => cond (decide (k = kd)) (some a) none
  | _ => none
def dB : TV RW → Option Bool
  | .sc (.bool b) => some b
  | _ => none
def dS : TV RW → Option ByteArray
  | .sc (.string b) => some b
  | _ => none
def dA : TV RW → Option Fr
  | .agg cs => some cs
  | _ => none
def dP (h j : Nat) : TV RW → Option Unit
  | .ptr a b => cond (Nat.beq a h && Nat.beq b j) (some ()) none
  | _ => none
def dC (f : Nat) (cs : List (Nat × Nat)) : TV RW → Option Unit
  | .clo a b => cond (Nat.beq a f && decide (b = cs)) (some ()) none
  | _ => none
def dREntry (fl : Bool) : TV RW → Option (List SEntry)
  | .row a (.rEntry xs) => cond (a == fl) (some xs) none
  | _ => none
def dRint (fl : Bool) : TV RW → Option (List Int)
  | .row a (.rint xs) => cond (a == fl) (some xs) none
  | _ => none
def dCc : Fr → Option SCc
  | [y0, y1, y2, y3, y4, y5, y6, y7, y8, y9, y10, y11, y12, y13, y14, y15, y16, y17, y18, y19, y20, y21] => (dI .i64 y0).bind fun a0 => (dI .i64 y1).bind fun a1 => (dI .i64 y2).bind fun a2 => (dI .i64 y3).bind fun a3 => (dI .i64 y4).bind fun a4 => (dI .i64 y5).bind fun a5 => (dI .i64 y6).bind fun a6 => (dI .i64 y7).bind fun a7 => (dI .i64 y8).bind fun a8 => (dI .i64 y9).bind fun a9 => (dI .i64 y10).bind fun a10 => (dREntry false y11).bind fun a11 => (dI .i64 y12).bind fun a12 => (dI .i64 y13).bind fun a13 => (dI .i64 y14).bind fun a14 => (dI .i64 y15).bind fun a15 => (dI .i64 y16).bind fun a16 => (dI .i64 y17).bind fun a17 => (dI .i64 y18).bind fun a18 => (dI .i64 y19).bind fun a19 => (dI .i64 y20).bind fun a20 => (dI .i64 y21).bind fun a21 => some ⟨a0, a1, a2, a3, a4, a5, a6, a7, a8, a9, a10, a11, a12, a13, a14, a15, a16, a17, a18, a19, a20, a21⟩
  | _ => none
def dCct : Fr → Option SCc
  | [y0, y1, y2, y3, y4, y5, y6, y7, y8, y9, y10, y11, y12, y13, y14, y15, y16, y17, y18, y19, y20, y21] => (dI .i64 y0).bind fun a0 => (dI .i64 y1).bind fun a1 => (dI .i64 y2).bind fun a2 => (dI .i64 y3).bind fun a3 => (dI .i64 y4).bind fun a4 => (dI .i64 y5).bind fun a5 => (dI .i64 y6).bind fun a6 => (dI .i64 y7).bind fun a7 => (dI .i64 y8).bind fun a8 => (dI .i64 y9).bind fun a9 => (dI .i64 y10).bind fun a10 => (dREntry true y11).bind fun a11 => (dI .i64 y12).bind fun a12 => (dI .i64 y13).bind fun a13 => (dI .i64 y14).bind fun a14 => (dI .i64 y15).bind fun a15 => (dI .i64 y16).bind fun a16 => (dI .i64 y17).bind fun a17 => (dI .i64 y18).bind fun a18 => (dI .i64 y19).bind fun a19 => (dI .i64 y20).bind fun a20 => (dI .i64 y21).bind fun a21 => some ⟨a0, a1, a2, a3, a4, a5, a6, a7, a8, a9, a10, a11, a12, a13, a14, a15, a16, a17, a18, a19, a20, a21⟩
  | _ => none
def dEntry : Fr → Option SEntry
  | [y0, y1] => (dI .i64 y0).bind fun a0 => (dI .i64 y1).bind fun a1 => some ⟨a0, a1⟩
  | _ => none
def dSample : Fr → Option SSample
  | [y0, y1, y2, y3, y4, y5, y6, y7] => (dI .i64 y0).bind fun a0 => (dI .i64 y1).bind fun a1 => (dI .i64 y2).bind fun a2 => (dI .i64 y3).bind fun a3 => (dB y4).bind fun a4 => (dI .i64 y5).bind fun a5 => (dI .i64 y6).bind fun a6 => (dI .i64 y7).bind fun a7 => some ⟨a0, a1, a2, a3, a4, a5, a6, a7⟩
  | _ => none
def dctl : Fr → Option Sctl
  | [y0, y1, y2, y3, y4, y5, y6, y7, y8, y9, y10, y11, y12, y13, y14, y15, y16, y17, y18, y19, y20, y21] => (dI .i64 y0).bind fun a0 => (dI .i64 y1).bind fun a1 => (dI .i64 y2).bind fun a2 => (dI .i64 y3).bind fun a3 => (dI .i64 y4).bind fun a4 => (dI .i64 y5).bind fun a5 => (dI .i64 y6).bind fun a6 => (dI .i64 y7).bind fun a7 => (dI .i64 y8).bind fun a8 => (dI .i64 y9).bind fun a9 => (dI .i64 y10).bind fun a10 => (dREntry false y11).bind fun a11 => (dI .i64 y12).bind fun a12 => (dI .i64 y13).bind fun a13 => (dI .i64 y14).bind fun a14 => (dI .i64 y15).bind fun a15 => (dI .i64 y16).bind fun a16 => (dI .i64 y17).bind fun a17 => (dI .i64 y18).bind fun a18 => (dI .i64 y19).bind fun a19 => (dI .i64 y20).bind fun a20 => (dI .i64 y21).bind fun a21 => some ⟨a0, a1, a2, a3, a4, a5, a6, a7, a8, a9, a10, a11, a12, a13, a14, a15, a16, a17, a18, a19, a20, a21⟩
  | _ => none
def dctlt : Fr → Option Sctl
  | [y0, y1, y2, y3, y4, y5, y6, y7, y8, y9, y10, y11, y12, y13, y14, y15, y16, y17, y18, y19, y20, y21] => (dI .i64 y0).bind fun a0 => (dI .i64 y1).bind fun a1 => (dI .i64 y2).bind fun a2 => (dI .i64 y3).bind fun a3 => (dI .i64 y4).bind fun a4 => (dI .i64 y5).bind fun a5 => (dI .i64 y6).bind fun a6 => (dI .i64 y7).bind fun a7 => (dI .i64 y8).bind fun a8 => (dI .i64 y9).bind fun a9 => (dI .i64 y10).bind fun a10 => (dREntry true y11).bind fun a11 => (dI .i64 y12).bind fun a12 => (dI .i64 y13).bind fun a13 => (dI .i64 y14).bind fun a14 => (dI .i64 y15).bind fun a15 => (dI .i64 y16).bind fun a16 => (dI .i64 y17).bind fun a17 => (dI .i64 y18).bind fun a18 => (dI .i64 y19).bind fun a19 => (dI .i64 y20).bind fun a20 => (dI .i64 y21).bind fun a21 => some ⟨a0, a1, a2, a3, a4, a5, a6, a7, a8, a9, a10, a11, a12, a13, a14, a15, a16, a17, a18, a19, a20, a21⟩
  | _ => none
def pEntry_ : Fr → Option (List SEntry)
  | [] => some []
  | y0 :: y1 :: r => (dI .i64 y0).bind fun a0 => (dI .i64 y1).bind fun a1 => (pEntry_ r).bind fun xs => some (⟨a0, a1⟩ :: xs)
  | _ => none

def pint_ : Fr → Option (List Int)
  | [] => some []
  | y0 :: r => (dI .i64 y0).bind fun a0 => (pint_ r).bind fun xs => some (a0 :: xs)

def U : Uni RW where
  sz := fun r => match r with
    | .rEntry xs => 2
    | .rint xs => 1
  len := fun r => match r with
    | .rEntry xs => xs.length
    | .rint xs => xs.length
  getA := fun r => match r with
    | .rEntry xs => rg cEntry zEntry xs
    | .rint xs => rg cint zint xs
  get := fun r i => match r with
    | .rEntry xs => eEntry (xs.getD i zEntry)
    | .rint xs => eint (xs.getD i zint)
  app := fun r q => match r with
    | .rEntry xs => (match q with
      | .rEntry ys => some (.rEntry (xs ++ ys))
      | _ => none)
    | .rint xs => (match q with
      | .rint ys => some (.rint (xs ++ ys))
      | _ => none)
  sub := fun lo n r => match r with
    | .rEntry xs => .rEntry (List.take n (xs.drop lo))
    | .rint xs => .rint (List.take n (xs.drop lo))
  szt := fun t => match t with
    | 49 => 2
    | 3 => 1
    | _ => 0
  zt := fun t => match t with
    | 49 => eEntry zEntry
    | 3 => eint zint
    | _ => []
  lit := fun t n L => match t with
    | 49 => (pEntry_ L).bind fun xs => cond (Nat.beq xs.length n) (some (.rEntry xs)) none
    | 3 => (pint_ L).bind fun xs => cond (Nat.beq xs.length n) (some (.rint xs)) none
    | _ => none
/-! tideway/reno.New -/
def G_reno_New {R : Type} (cp : Nat → Nat → Bool) : Nat → Int → Int → (SCc → Int → Option R) → Option R
  | 0, _, _, _ => none
  | n + 1, p0, p1, k =>
    cond (decide (p0 < 1)) (k (SCc.mk 0 0 0 0 0 0 0 0 0 0 0 [] 0 0 0 0 0 0 0 0 0 0) 2) (cond (decide (65000 < p0)) (k (SCc.mk 0 0 0 0 0 0 0 0 0 0 0 [] 0 0 0 0 0 0 0 0 0 0) 2) (cond (decide (p1 < 1)) (k (SCc.mk 0 0 0 0 0 0 0 0 0 0 0 [] 0 0 0 0 0 0 0 0 0 0) 2) (cond (decide (100 < p1)) (k (SCc.mk 0 0 0 0 0 0 0 0 0 0 0 [] 0 0 0 0 0 0 0 0 0 0) 2) (k (SCc.mk 1 p0 (wr .i64 (p0 * p1)) 1073741824 0 0 0 0 0 0 0 [] 0 0 0 0 0 0 0 0 0 0) 0))))
/-! tideway/bbr.New -/
def G_bbr_New {R : Type} (cp : Nat → Nat → Bool) : Nat → Int → Int → (SCc → Int → Option R) → Option R
  | 0, _, _, _ => none
  | n + 1, p0, p1, k =>
    G_reno_New cp n p0 p1 (fun r1 r2 => cond (decide (r2 = 0)) (k (SCc.mk 3 r1.xMss r1.xCwnd r1.xSsthresh r1.xAcc r1.xWmax r1.xEpoch r1.xK r1.xWest r1.xStart 1 r1.xBw r1.xMinRtt r1.xMinAt r1.xRound r1.xNextAt r1.xFull r1.xFullN r1.xPhase r1.xPhaseAt r1.xDoneAt r1.xPrior) r2) (k r1 r2))
/-! tideway/bbr.within -/
def s_bbr_within_1 {R : Type} (cp : Nat → Nat → Bool) (n : Nat) (p0 : Int) (p1 : (List Int)) (kn : Option R) : Option R :=
  kn
def s_bbr_within_3 {R : Type} (cp : Nat → Nat → Bool) (n : Nat) (p0 : Int) (p1 : (List Int)) (kn : Int → Option R) : Option R :=
  kn (p1.length : Int)
def s_bbr_within_5 {R : Type} (cp : Nat → Nat → Bool) (n : Nat) (p0 : Int) (p1 : (List Int)) (v5 v6 : Int) (kn : Int → Option R) (kr : Option R) (ke0 : Option R) : Option R :=
  cond (decide (v6 < v5)) (cond (decide (0 ≤ v6)) (cond (decide (v6 < (p1.length : Int))) (cond (decide ((p1.getD (Int.toNat v6) zint) < 0)) (kr) (cond (decide (p0 < (p1.getD (Int.toNat v6) zint))) (kr) (kn (wr .i64 (v6 + 1))))) (none)) (none)) (ke0)
def l_bbr_within_10 {R : Type} (cp : Nat → Nat → Bool) (n : Nat) : Nat → Int → (List Int) → Int → Int → (Option R) → (Option R) → Option R
  | 0, _, _, _, _, _, _ => none
  | m + 1, p0, p1, v5, v6, kr, ke0 =>
    s_bbr_within_5 cp n p0 p1 v5 v6 (fun v7 => l_bbr_within_10 cp n m p0 p1 v5 v7 kr ke0) kr ke0
def s_bbr_within_11 {R : Type} (cp : Nat → Nat → Bool) (n : Nat) (p0 : Int) (p1 : (List Int)) (v5 : Int) (kr : Option R) (ke0 : Option R) : Option R :=
  l_bbr_within_10 cp n n p0 p1 v5 0 kr ke0
def s_bbr_within_12 {R : Type} (cp : Nat → Nat → Bool) (n : Nat) (p0 : Int) (p1 : (List Int)) (v5 : Int) (kn : Option R) (kr : Option R) : Option R :=
  s_bbr_within_11 cp n p0 p1 v5 kr kn
def s_bbr_within_13 {R : Type} (cp : Nat → Nat → Bool) (n : Nat) (p0 : Int) (p1 : (List Int)) (kn : Option R) (kr : Option R) : Option R :=
  s_bbr_within_3 cp n p0 p1 (fun v5 => s_bbr_within_12 cp n p0 p1 v5 kn kr)
def s_bbr_within_14 {R : Type} (cp : Nat → Nat → Bool) (n : Nat) (kr : Option R) : Option R :=
  kr
def s_bbr_within_17 {R : Type} (cp : Nat → Nat → Bool) (n : Nat) (p0 : Int) (p1 : (List Int)) (kr : Bool → Option R) : Option R :=
  s_bbr_within_13 cp n p0 p1 (s_bbr_within_14 cp n (kr true)) (kr false)
def s_bbr_within_19 {R : Type} (cp : Nat → Nat → Bool) (n : Nat) (p0 : Int) (p1 : (List Int)) (kr : Bool → Option R) : Option R :=
  s_bbr_within_1 cp n p0 p1 (s_bbr_within_17 cp n p0 p1 (fun v8 => (kr v8)))
def G_bbr_within {R : Type} (cp : Nat → Nat → Bool) : Nat → Int → (List Int) → (Bool → Option R) → Option R
  | 0, _, _, _ => none
  | n + 1, p0, p1, k =>
    s_bbr_within_19 cp n p0 p1 (fun v9 => k v9)
/-! tideway/filter.may -/
def G_filter_may {R : Type} (cp : Nat → Nat → Bool) : Nat → SEntry → (Bool → Option R) → Option R
  | 0, _, _ => none
  | n + 1, p0, k =>
    cond (decide (0 ≤ p0.xAt)) (cond (decide (p0.xAt ≤ 1125899906842624)) (cond (decide (0 ≤ p0.xV)) (k (decide (p0.xV ≤ 1152921504606846976))) (k false)) (k false)) (k false)
/-! tideway/filter.beats -/
def G_filter_beats {R : Type} (cp : Nat → Nat → Bool) : Nat → Int → Int → Bool → (Bool → Option R) → Option R
  | 0, _, _, _, _ => none
  | n + 1, p0, p1, p2, k =>
    cond (p2) (cond (decide (p1 ≤ p0)) (k true) (cond (!p2) (k (decide (p0 ≤ p1))) (k false))) (cond (!p2) (k (decide (p0 ≤ p1))) (k false))
/-! tideway/filter.Check -/
def s_filter_Check_1 {R : Type} (cp : Nat → Nat → Bool) (n : Nat) (p0 : (List SEntry)) (p1 : Bool) (kn : Option R) : Option R :=
  kn
def s_filter_Check_3 {R : Type} (cp : Nat → Nat → Bool) (n : Nat) (p0 : (List SEntry)) (p1 : Bool) (kn : Int → Option R) : Option R :=
  kn (p0.length : Int)
def s_filter_Check_5 {R : Type} (cp : Nat → Nat → Bool) (n : Nat) (p0 : (List SEntry)) (p1 : Bool) (v13 v14 : Int) (kn : Int → Option R) (kr : Option R) (ke0 : Option R) : Option R :=
  cond (decide (v14 < v13)) (cond (decide (0 ≤ v14)) (cond (decide (v14 < (p0.length : Int))) (G_filter_may cp n (p0.getD (Int.toNat v14) zEntry) (fun r15 => cond (!r15) (kr) (cond (decide (0 < v14)) (cond (decide (0 ≤ wr .i64 (v14 - 1))) (cond (decide (wr .i64 (v14 - 1) < (p0.length : Int))) (cond (decide (((p0.getD (Int.toNat v14) zEntry).xAt) ≤ ((p0.getD (Int.toNat (wr .i64 (v14 - 1))) zEntry).xAt))) (kr) (cond (decide (0 ≤ wr .i64 (v14 - 1))) (cond (decide (wr .i64 (v14 - 1) < (p0.length : Int))) (G_filter_beats cp n ((p0.getD (Int.toNat v14) zEntry).xV) ((p0.getD (Int.toNat (wr .i64 (v14 - 1))) zEntry).xV) p1 (fun r16 => cond (r16) (kr) (kn (wr .i64 (v14 + 1))))) (none)) (none))) (none)) (none)) (kn (wr .i64 (v14 + 1)))))) (none)) (none)) (ke0)
def l_filter_Check_10 {R : Type} (cp : Nat → Nat → Bool) (n : Nat) : Nat → (List SEntry) → Bool → Int → Int → (Option R) → (Option R) → Option R
  | 0, _, _, _, _, _, _ => none
  | m + 1, p0, p1, v13, v14, kr, ke0 =>
    s_filter_Check_5 cp n p0 p1 v13 v14 (fun v17 => l_filter_Check_10 cp n m p0 p1 v13 v17 kr ke0) kr ke0
def s_filter_Check_11 {R : Type} (cp : Nat → Nat → Bool) (n : Nat) (p0 : (List SEntry)) (p1 : Bool) (v13 : Int) (kr : Option R) (ke0 : Option R) : Option R :=
  l_filter_Check_10 cp n n p0 p1 v13 0 kr ke0
def s_filter_Check_12 {R : Type} (cp : Nat → Nat → Bool) (n : Nat) (p0 : (List SEntry)) (p1 : Bool) (v13 : Int) (kn : Option R) (kr : Option R) : Option R :=
  s_filter_Check_11 cp n p0 p1 v13 kr kn
def s_filter_Check_13 {R : Type} (cp : Nat → Nat → Bool) (n : Nat) (p0 : (List SEntry)) (p1 : Bool) (kn : Option R) (kr : Option R) : Option R :=
  s_filter_Check_3 cp n p0 p1 (fun v13 => s_filter_Check_12 cp n p0 p1 v13 kn kr)
def s_filter_Check_14 {R : Type} (cp : Nat → Nat → Bool) (n : Nat) (kr : Option R) : Option R :=
  kr
def s_filter_Check_17 {R : Type} (cp : Nat → Nat → Bool) (n : Nat) (p0 : (List SEntry)) (p1 : Bool) (kr : Int → Option R) : Option R :=
  s_filter_Check_13 cp n p0 p1 (s_filter_Check_14 cp n (kr 0)) (kr 2)
def s_filter_Check_19 {R : Type} (cp : Nat → Nat → Bool) (n : Nat) (p0 : (List SEntry)) (p1 : Bool) (kr : Int → Option R) : Option R :=
  s_filter_Check_1 cp n p0 p1 (s_filter_Check_17 cp n p0 p1 (fun v18 => (kr v18)))
def G_filter_Check {R : Type} (cp : Nat → Nat → Bool) : Nat → (List SEntry) → Bool → (Int → Option R) → Option R
  | 0, _, _, _ => none
  | n + 1, p0, p1, k =>
    s_filter_Check_19 cp n p0 p1 (fun v19 => k v19)
/-! (*tideway/bbr.ctl).entries -/
def s_bbr_ctl_entries_1 {R : Type} (cp : Nat → Nat → Bool) (n : Nat) (q0 : Sctl) (kn : Option R) (kr : Option R) : Option R :=
  G_filter_Check cp n q0.xCc_Bw true (fun r20 => cond (!decide (r20 = 0)) (kr) (kn))
def s_bbr_ctl_entries_4 {R : Type} (cp : Nat → Nat → Bool) (n : Nat) (q0 : Sctl) (kn : Int → Option R) : Option R :=
  kn (q0.xCc_Bw.length : Int)
def s_bbr_ctl_entries_6 {R : Type} (cp : Nat → Nat → Bool) (n : Nat) (q0 : Sctl) (v21 v22 : Int) (kn : Int → Option R) (kr : Option R) (ke0 : Option R) : Option R :=
  cond (decide (v22 < v21)) (cond (decide (0 ≤ v22)) (cond (decide (v22 < (q0.xCc_Bw.length : Int))) (cond (decide (1099511627776 < ((q0.xCc_Bw.getD (Int.toNat v22) zEntry).xV))) (kr) (cond (decide (q0.xCc_Round < ((q0.xCc_Bw.getD (Int.toNat v22) zEntry).xAt))) (kr) (kn (wr .i64 (v22 + 1))))) (none)) (none)) (ke0)
def l_bbr_ctl_entries_10 {R : Type} (cp : Nat → Nat → Bool) (n : Nat) : Nat → Sctl → Int → Int → (Option R) → (Option R) → Option R
  | 0, _, _, _, _, _ => none
  | m + 1, q0, v21, v22, kr, ke0 =>
    s_bbr_ctl_entries_6 cp n q0 v21 v22 (fun v23 => l_bbr_ctl_entries_10 cp n m q0 v21 v23 kr ke0) kr ke0
def s_bbr_ctl_entries_11 {R : Type} (cp : Nat → Nat → Bool) (n : Nat) (q0 : Sctl) (v21 : Int) (kr : Option R) (ke0 : Option R) : Option R :=
  l_bbr_ctl_entries_10 cp n n q0 v21 0 kr ke0
def s_bbr_ctl_entries_12 {R : Type} (cp : Nat → Nat → Bool) (n : Nat) (q0 : Sctl) (v21 : Int) (kn : Option R) (kr : Option R) : Option R :=
  s_bbr_ctl_entries_11 cp n q0 v21 kr kn
def s_bbr_ctl_entries_13 {R : Type} (cp : Nat → Nat → Bool) (n : Nat) (q0 : Sctl) (kn : Option R) (kr : Option R) : Option R :=
  s_bbr_ctl_entries_4 cp n q0 (fun v21 => s_bbr_ctl_entries_12 cp n q0 v21 kn kr)
def s_bbr_ctl_entries_14 {R : Type} (cp : Nat → Nat → Bool) (n : Nat) (q0 : Sctl) (kr : Option R) : Option R :=
  kr
def s_bbr_ctl_entries_17 {R : Type} (cp : Nat → Nat → Bool) (n : Nat) (q0 : Sctl) (kr : Bool → Option R) : Option R :=
  s_bbr_ctl_entries_13 cp n q0 (s_bbr_ctl_entries_14 cp n q0 (kr true)) (kr false)
def s_bbr_ctl_entries_19 {R : Type} (cp : Nat → Nat → Bool) (n : Nat) (q0 : Sctl) (kr : Bool → Option R) : Option R :=
  s_bbr_ctl_entries_1 cp n q0 (s_bbr_ctl_entries_17 cp n q0 (fun v24 => (kr v24))) (kr false)
def G_bbr_ctl_entries {R : Type} (cp : Nat → Nat → Bool) : Nat → Sctl → (Bool → Sctl → Option R) → Option R
  | 0, _, _ => none
  | n + 1, q0, k =>
    s_bbr_ctl_entries_19 cp n q0 (fun v25 => k v25 q0)
/-! tideway/bbr.Check -/
def s_bbr_Check_1 {R : Type} (cp : Nat → Nat → Bool) (n : Nat) (p0 : SCc) (kn : Option R) : Option R :=
  kn
def s_bbr_Check_3 {R : Type} (cp : Nat → Nat → Bool) (n : Nat) (p0 : SCc) (kn : Bool → Option R) : Option R :=
  cond (decide (p0.xKind = 3)) (cond (decide (1 ≤ p0.xMss)) (cond (decide (p0.xMss ≤ 65000)) (cond (decide (p0.xMss ≤ p0.xCwnd)) (cond (decide (p0.xCwnd ≤ 1073741824)) (cond (decide (p0.xSsthresh = 1073741824)) (kn (decide (p0.xAcc = 0))) (kn false)) (kn false)) (kn false)) (kn false)) (kn false)) (kn false)
def s_bbr_Check_5 {R : Type} (cp : Nat → Nat → Bool) (n : Nat) (p0 : SCc) (v5 : Bool) (kn : Bool → Option R) : Option R :=
  cond (decide (p0.xWmax = 0)) (cond (decide (p0.xEpoch = 0)) (cond (decide (p0.xK = 0)) (cond (decide (p0.xWest = 0)) (kn (decide (p0.xStart = 0))) (kn false)) (kn false)) (kn false)) (kn false)
def s_bbr_Check_7 {R : Type} (cp : Nat → Nat → Bool) (n : Nat) (p0 : SCc) (v5 v6 : Bool) (kn : Bool → Option R) : Option R :=
  G_bbr_within cp n 1125899906842624 [p0.xMinRtt, p0.xMinAt, p0.xNextAt, p0.xPhaseAt, p0.xDoneAt, p0.xRound] (fun r7 => kn r7)
def s_bbr_Check_9 {R : Type} (cp : Nat → Nat → Bool) (n : Nat) (p0 : SCc) (v5 v6 v8 : Bool) (kn : Bool → Option R) : Option R :=
  G_bbr_within cp n 1099511627776 [p0.xFull] (fun r9 => cond (r9) (G_bbr_within cp n 3 [p0.xFullN] (fun r10 => cond (r10) (G_bbr_within cp n 7 [p0.xPhase] (fun r11 => cond (r11) (G_bbr_within cp n 1073741824 [p0.xPrior] (fun r12 => kn r12)) (kn false))) (kn false))) (kn false))
def s_bbr_Check_11 {R : Type} (cp : Nat → Nat → Bool) (n : Nat) (p0 : SCc) (v5 v6 v8 v13 : Bool) (kr : Int → Option R) : Option R :=
  cond (!v5) (kr 230) (cond (!v6) (kr 230) (cond (!v8) (kr 230) (cond (!v13) (kr 230) (cond (decide (p0.xMode < 1)) (kr 230) (cond (decide (4 < p0.xMode)) (kr 230) (G_bbr_ctl_entries cp n (Sctl.mk p0.xKind p0.xMss p0.xCwnd p0.xSsthresh p0.xAcc p0.xWmax p0.xEpoch p0.xK p0.xWest p0.xStart p0.xMode p0.xBw p0.xMinRtt p0.xMinAt p0.xRound p0.xNextAt p0.xFull p0.xFullN p0.xPhase p0.xPhaseAt p0.xDoneAt p0.xPrior) (fun r14 r15 => cond (!r14) (kr 230) (kr 0))))))))
def s_bbr_Check_14 {R : Type} (cp : Nat → Nat → Bool) (n : Nat) (p0 : SCc) (v5 v6 v8 : Bool) (kr : Int → Option R) : Option R :=
  s_bbr_Check_9 cp n p0 v5 v6 v8 (fun v13 => s_bbr_Check_11 cp n p0 v5 v6 v8 v13 (fun v16 => (kr v16)))
def s_bbr_Check_16 {R : Type} (cp : Nat → Nat → Bool) (n : Nat) (p0 : SCc) (v5 v6 : Bool) (kr : Int → Option R) : Option R :=
  s_bbr_Check_7 cp n p0 v5 v6 (fun v8 => s_bbr_Check_14 cp n p0 v5 v6 v8 (fun v17 => (kr v17)))
def s_bbr_Check_18 {R : Type} (cp : Nat → Nat → Bool) (n : Nat) (p0 : SCc) (v5 : Bool) (kr : Int → Option R) : Option R :=
  s_bbr_Check_5 cp n p0 v5 (fun v6 => s_bbr_Check_16 cp n p0 v5 v6 (fun v18 => (kr v18)))
def s_bbr_Check_20 {R : Type} (cp : Nat → Nat → Bool) (n : Nat) (p0 : SCc) (kr : Int → Option R) : Option R :=
  s_bbr_Check_3 cp n p0 (fun v5 => s_bbr_Check_18 cp n p0 v5 (fun v19 => (kr v19)))
def s_bbr_Check_22 {R : Type} (cp : Nat → Nat → Bool) (n : Nat) (p0 : SCc) (kr : Int → Option R) : Option R :=
  s_bbr_Check_1 cp n p0 (s_bbr_Check_20 cp n p0 (fun v20 => (kr v20)))
def G_bbr_Check {R : Type} (cp : Nat → Nat → Bool) : Nat → SCc → (Int → Option R) → Option R
  | 0, _, _ => none
  | n + 1, p0, k =>
    s_bbr_Check_22 cp n p0 (fun v21 => k v21)
/-! (*tideway/bbr.ctl).round -/
def G_bbr_ctl_round {R : Type} (cp : Nat → Nat → Bool) : Nat → SSample → Sctl → (Bool → Sctl → Option R) → Option R
  | 0, _, _, _ => none
  | n + 1, p1, q0, k =>
    cond (decide (p1.xBefore < q0.xCc_NextAt)) (k false q0) (k true (Sctl.mk q0.xCc_Kind q0.xCc_Mss q0.xCc_Cwnd q0.xCc_Ssthresh q0.xCc_Acc q0.xCc_Wmax q0.xCc_Epoch q0.xCc_K q0.xCc_West q0.xCc_Start q0.xCc_Mode q0.xCc_Bw q0.xCc_MinRtt q0.xCc_MinAt (mn 1125899906842624 (wr .i64 (q0.xCc_Round + 1))) p1.xGiven q0.xCc_Full q0.xCc_FullN q0.xCc_Phase q0.xCc_PhaseAt q0.xCc_DoneAt q0.xCc_Prior))
/-! tideway/filter.Best -/
def G_filter_Best {R : Type} (cp : Nat → Nat → Bool) : Nat → (List SEntry) → (Int → Bool → Option R) → Option R
  | 0, _, _ => none
  | n + 1, p0, k =>
    cond (decide ((p0.length : Int) = 0)) (k 0 false) (cond (decide (0 < (p0.length : Int))) (k ((p0.getD 0 zEntry).xV) true) (none))
/-! (*tideway/bbr.ctl).bandwidth -/
def G_bbr_ctl_bandwidth {R : Type} (cp : Nat → Nat → Bool) : Nat → Sctl → (Int → Sctl → Option R) → Option R
  | 0, _, _ => none
  | n + 1, q0, k =>
    G_filter_Best cp n q0.xCc_Bw (fun r27 r28 => k r27 q0)
/-! tideway/filter.Put -/
def s_filter_Put_1 {R : Type} (cp : Nat → Nat → Bool) (n : Nat) (p0 : (List SEntry)) (p1 p2 p3 : Int) (p4 : Bool) (kn : Int → Option R) (kr : Option R) : Option R :=
  G_filter_Check cp n p0 p4 (fun r34 => cond (!decide (r34 = 0)) (kr) (G_filter_may cp n (SEntry.mk p1 p2) (fun r35 => cond (!r35) (kr) (G_filter_may cp n (SEntry.mk p3 0) (fun r36 => cond (!r36) (kr) (cond (decide (0 < (p0.length : Int))) (cond (decide (0 ≤ wr .i64 ((p0.length : Int) - 1))) (cond (decide (wr .i64 ((p0.length : Int) - 1) < (p0.length : Int))) (cond (decide (p1 ≤ ((p0.getD (Int.toNat (wr .i64 ((p0.length : Int) - 1))) zEntry).xAt))) (kr) (kn (p0.length : Int))) (none)) (none)) (kn (p0.length : Int))))))))
def s_filter_Put_4 {R : Type} (cp : Nat → Nat → Bool) (n : Nat) (p0 : (List SEntry)) (p1 p2 p3 : Int) (p4 : Bool) (v37 v38 : Int) (kn : Int → Option R) (ke0 : Option R) : Option R :=
  cond (decide (v38 < v37)) (cond (decide (0 ≤ v38)) (cond (decide (v38 < (p0.length : Int))) (cond (decide ((wr .i64 (((p0.getD (Int.toNat v38) zEntry).xAt) + p3)) < p1)) (kn (wr .i64 (v38 + 1))) (ke0)) (none)) (none)) (ke0)
def l_filter_Put_9 {R : Type} (cp : Nat → Nat → Bool) (n : Nat) : Nat → (List SEntry) → Int → Int → Int → Bool → Int → Int → (Int → Option R) → Option R
  | 0, _, _, _, _, _, _, _, _ => none
  | m + 1, p0, p1, p2, p3, p4, v37, v38, ke0 =>
    s_filter_Put_4 cp n p0 p1 p2 p3 p4 v37 v38 (fun v39 => l_filter_Put_9 cp n m p0 p1 p2 p3 p4 v37 v39 ke0) (ke0 v38)
def s_filter_Put_10 {R : Type} (cp : Nat → Nat → Bool) (n : Nat) (p0 : (List SEntry)) (p1 p2 p3 : Int) (p4 : Bool) (v37 : Int) (ke0 : Int → Option R) : Option R :=
  l_filter_Put_9 cp n n p0 p1 p2 p3 p4 v37 0 ke0
def s_filter_Put_12 {R : Type} (cp : Nat → Nat → Bool) (n : Nat) (p0 : (List SEntry)) (p1 p2 p3 : Int) (p4 : Bool) (v37 : Int) (kn : Int → Option R) : Option R :=
  s_filter_Put_10 cp n p0 p1 p2 p3 p4 v37 (fun v40 => (kn v40))
def s_filter_Put_13 {R : Type} (cp : Nat → Nat → Bool) (n : Nat) (p0 : (List SEntry)) (p1 p2 : Int) (p4 : Bool) (v41 v42 : Int) (kn : Int → Option R) (ke2 : Option R) : Option R :=
  cond (decide (v41 < v42)) (cond (decide (0 ≤ wr .i64 (v42 - 1))) (cond (decide (wr .i64 (v42 - 1) < (p0.length : Int))) (G_filter_beats cp n p2 ((p0.getD (Int.toNat (wr .i64 (v42 - 1))) zEntry).xV) p4 (fun r43 => cond (r43) (kn (wr .i64 (v42 - 1))) (ke2))) (none)) (none)) (ke2)
def l_filter_Put_18 {R : Type} (cp : Nat → Nat → Bool) (n : Nat) : Nat → (List SEntry) → Int → Int → Bool → Int → Int → (Int → Option R) → Option R
  | 0, _, _, _, _, _, _, _ => none
  | m + 1, p0, p1, p2, p4, v41, v42, ke2 =>
    s_filter_Put_13 cp n p0 p1 p2 p4 v41 v42 (fun v44 => l_filter_Put_18 cp n m p0 p1 p2 p4 v41 v44 ke2) (ke2 v42)
def s_filter_Put_19 {R : Type} (cp : Nat → Nat → Bool) (n : Nat) (p0 : (List SEntry)) (p1 p2 : Int) (p4 : Bool) (v37 v41 : Int) (ke2 : Int → Option R) : Option R :=
  l_filter_Put_18 cp n n p0 p1 p2 p4 v41 v37 ke2
def s_filter_Put_21 {R : Type} (cp : Nat → Nat → Bool) (n : Nat) (p0 : (List SEntry)) (p1 p2 : Int) (p4 : Bool) (v37 v41 : Int) (kn : Int → Option R) : Option R :=
  s_filter_Put_19 cp n p0 p1 p2 p4 v37 v41 (fun v45 => (kn v45))
def s_filter_Put_22 {R : Type} (cp : Nat → Nat → Bool) (n : Nat) (p0 : (List SEntry)) (p1 p2 v41 v46 : Int) (kr : (List SEntry) → Option R) : Option R :=
  cond (decide (0 ≤ v41)) (cond (decide (v41 ≤ v46)) (cond (decide (v46 ≤ (p0.length : Int))) (cond (decide (v46 = v46)) (cond (cp ((List.take ((Int.toNat v46) - (Int.toNat v41)) (p0.drop (Int.toNat v41))).length + [(SEntry.mk p1 p2)].length) 16) (kr ((List.take ((Int.toNat v46) - (Int.toNat v41)) (p0.drop (Int.toNat v41))) ++ [(SEntry.mk p1 p2)])) (none)) (none)) (none)) (none)) (none)
def s_filter_Put_25 {R : Type} (cp : Nat → Nat → Bool) (n : Nat) (p0 : (List SEntry)) (p1 p2 : Int) (p4 : Bool) (v37 v41 : Int) (kr : (List SEntry) → Option R) : Option R :=
  s_filter_Put_21 cp n p0 p1 p2 p4 v37 v41 (fun v46 => s_filter_Put_22 cp n p0 p1 p2 v41 v46 (fun v47 => (kr v47)))
def s_filter_Put_27 {R : Type} (cp : Nat → Nat → Bool) (n : Nat) (p0 : (List SEntry)) (p1 p2 p3 : Int) (p4 : Bool) (v37 : Int) (kr : (List SEntry) → Option R) : Option R :=
  s_filter_Put_12 cp n p0 p1 p2 p3 p4 v37 (fun v41 => s_filter_Put_25 cp n p0 p1 p2 p4 v37 v41 (fun v48 => (kr v48)))
def s_filter_Put_29 {R : Type} (cp : Nat → Nat → Bool) (n : Nat) (p0 : (List SEntry)) (p1 p2 p3 : Int) (p4 : Bool) (kr : (List SEntry) → Int → Option R) : Option R :=
  s_filter_Put_1 cp n p0 p1 p2 p3 p4 (fun v37 => s_filter_Put_27 cp n p0 p1 p2 p3 p4 v37 (fun v49 => (kr v49 0))) (kr [] 2)
def G_filter_Put {R : Type} (cp : Nat → Nat → Bool) : Nat → (List SEntry) → Int → Int → Int → Bool → ((List SEntry) → Int → Option R) → Option R
  | 0, _, _, _, _, _, _ => none
  | n + 1, p0, p1, p2, p3, p4, k =>
    s_filter_Put_29 cp n p0 p1 p2 p3 p4 (fun v50 v51 => k v50 v51)
/-! (*tideway/bbr.ctl).speed -/
def s_bbr_ctl_speed_1 {R : Type} (cp : Nat → Nat → Bool) (n : Nat) (p1 : SSample) (q0 : Sctl) (kn : Int → Option R) (kr : Option R) : Option R :=
  cond (decide ((mn 1099511627776 p1.xRate) = 0)) (kr) (cond (p1.xIdle) (G_bbr_ctl_bandwidth cp n q0 (fun r29 r30 => cond (decide ((mn 1099511627776 p1.xRate) < r29)) (kr) (kn (mn 1099511627776 p1.xRate)))) (kn (mn 1099511627776 p1.xRate)))
def s_bbr_ctl_speed_4 {R : Type} (cp : Nat → Nat → Bool) (n : Nat) (q0 : Sctl) (v31 : Int) (kn : (List SEntry) → Option R) : Option R :=
  cond (decide (0 < (q0.xCc_Bw.length : Int))) (cond (decide (0 ≤ wr .i64 ((q0.xCc_Bw.length : Int) - 1))) (cond (decide (wr .i64 ((q0.xCc_Bw.length : Int) - 1) < (q0.xCc_Bw.length : Int))) (cond (decide (((q0.xCc_Bw.getD (Int.toNat (wr .i64 ((q0.xCc_Bw.length : Int) - 1))) zEntry).xAt) = q0.xCc_Round)) (cond (decide (0 ≤ wr .i64 ((q0.xCc_Bw.length : Int) - 1))) (cond (decide (wr .i64 ((q0.xCc_Bw.length : Int) - 1) < (q0.xCc_Bw.length : Int))) (cond (decide (0 ≤ wr .i64 ((q0.xCc_Bw.length : Int) - 1))) (cond (decide (wr .i64 ((q0.xCc_Bw.length : Int) - 1) ≤ (q0.xCc_Bw.length : Int))) (cond (decide (wr .i64 ((q0.xCc_Bw.length : Int) - 1) = wr .i64 ((q0.xCc_Bw.length : Int) - 1))) (G_filter_Put cp n (q0.xCc_Bw.take (Int.toNat (wr .i64 ((q0.xCc_Bw.length : Int) - 1)))) q0.xCc_Round (mx v31 ((q0.xCc_Bw.getD (Int.toNat (wr .i64 ((q0.xCc_Bw.length : Int) - 1))) zEntry).xV)) 10 true (fun r32 r33 => kn r32)) (none)) (none)) (none)) (none)) (none)) (G_filter_Put cp n q0.xCc_Bw q0.xCc_Round v31 10 true (fun r34 r35 => kn r34))) (none)) (none)) (G_filter_Put cp n q0.xCc_Bw q0.xCc_Round v31 10 true (fun r36 r37 => kn r36))
def s_bbr_ctl_speed_7 {R : Type} (cp : Nat → Nat → Bool) (n : Nat) (p1 : SSample) (q0 : Sctl) (kn : (List SEntry) → Option R) (kr : Option R) : Option R :=
  s_bbr_ctl_speed_1 cp n p1 q0 (fun v31 => s_bbr_ctl_speed_4 cp n q0 v31 (fun v38 => (kn v38))) kr
def G_bbr_ctl_speed {R : Type} (cp : Nat → Nat → Bool) : Nat → SSample → Sctl → (Sctl → Option R) → Option R
  | 0, _, _, _ => none
  | n + 1, p1, q0, k =>
    s_bbr_ctl_speed_7 cp n p1 q0 (fun v39 => k (Sctl.mk q0.xCc_Kind q0.xCc_Mss q0.xCc_Cwnd q0.xCc_Ssthresh q0.xCc_Acc q0.xCc_Wmax q0.xCc_Epoch q0.xCc_K q0.xCc_West q0.xCc_Start q0.xCc_Mode v39 q0.xCc_MinRtt q0.xCc_MinAt q0.xCc_Round q0.xCc_NextAt q0.xCc_Full q0.xCc_FullN q0.xCc_Phase q0.xCc_PhaseAt q0.xCc_DoneAt q0.xCc_Prior)) (k q0)
/-! (*tideway/bbr.ctl).shortest -/
def G_bbr_ctl_shortest {R : Type} (cp : Nat → Nat → Bool) : Nat → SSample → Sctl → (Bool → Sctl → Option R) → Option R
  | 0, _, _, _ => none
  | n + 1, p1, q0, k =>
    cond (decide (0 < q0.xCc_MinRtt)) (cond (decide (0 < p1.xRtt)) (cond (decide (10000000 < (wr .i64 (p1.xNow - q0.xCc_MinAt)))) (k (decide (10000000 < (wr .i64 (p1.xNow - q0.xCc_MinAt)))) (Sctl.mk q0.xCc_Kind q0.xCc_Mss q0.xCc_Cwnd q0.xCc_Ssthresh q0.xCc_Acc q0.xCc_Wmax q0.xCc_Epoch q0.xCc_K q0.xCc_West q0.xCc_Start q0.xCc_Mode q0.xCc_Bw p1.xRtt p1.xNow q0.xCc_Round q0.xCc_NextAt q0.xCc_Full q0.xCc_FullN q0.xCc_Phase q0.xCc_PhaseAt q0.xCc_DoneAt q0.xCc_Prior)) (cond (decide (q0.xCc_MinRtt = 0)) (k (decide (10000000 < (wr .i64 (p1.xNow - q0.xCc_MinAt)))) (Sctl.mk q0.xCc_Kind q0.xCc_Mss q0.xCc_Cwnd q0.xCc_Ssthresh q0.xCc_Acc q0.xCc_Wmax q0.xCc_Epoch q0.xCc_K q0.xCc_West q0.xCc_Start q0.xCc_Mode q0.xCc_Bw p1.xRtt p1.xNow q0.xCc_Round q0.xCc_NextAt q0.xCc_Full q0.xCc_FullN q0.xCc_Phase q0.xCc_PhaseAt q0.xCc_DoneAt q0.xCc_Prior)) (cond (decide (p1.xRtt ≤ q0.xCc_MinRtt)) (k (decide (10000000 < (wr .i64 (p1.xNow - q0.xCc_MinAt)))) (Sctl.mk q0.xCc_Kind q0.xCc_Mss q0.xCc_Cwnd q0.xCc_Ssthresh q0.xCc_Acc q0.xCc_Wmax q0.xCc_Epoch q0.xCc_K q0.xCc_West q0.xCc_Start q0.xCc_Mode q0.xCc_Bw p1.xRtt p1.xNow q0.xCc_Round q0.xCc_NextAt q0.xCc_Full q0.xCc_FullN q0.xCc_Phase q0.xCc_PhaseAt q0.xCc_DoneAt q0.xCc_Prior)) (k (decide (10000000 < (wr .i64 (p1.xNow - q0.xCc_MinAt)))) q0)))) (k (decide (10000000 < (wr .i64 (p1.xNow - q0.xCc_MinAt)))) q0)) (cond (decide (0 < p1.xRtt)) (cond (decide (q0.xCc_MinRtt = 0)) (k false (Sctl.mk q0.xCc_Kind q0.xCc_Mss q0.xCc_Cwnd q0.xCc_Ssthresh q0.xCc_Acc q0.xCc_Wmax q0.xCc_Epoch q0.xCc_K q0.xCc_West q0.xCc_Start q0.xCc_Mode q0.xCc_Bw p1.xRtt p1.xNow q0.xCc_Round q0.xCc_NextAt q0.xCc_Full q0.xCc_FullN q0.xCc_Phase q0.xCc_PhaseAt q0.xCc_DoneAt q0.xCc_Prior)) (cond (decide (p1.xRtt ≤ q0.xCc_MinRtt)) (k false (Sctl.mk q0.xCc_Kind q0.xCc_Mss q0.xCc_Cwnd q0.xCc_Ssthresh q0.xCc_Acc q0.xCc_Wmax q0.xCc_Epoch q0.xCc_K q0.xCc_West q0.xCc_Start q0.xCc_Mode q0.xCc_Bw p1.xRtt p1.xNow q0.xCc_Round q0.xCc_NextAt q0.xCc_Full q0.xCc_FullN q0.xCc_Phase q0.xCc_PhaseAt q0.xCc_DoneAt q0.xCc_Prior)) (k false q0))) (k false q0))
/-! (*tideway/bbr.ctl).full -/
def G_bbr_ctl_full {R : Type} (cp : Nat → Nat → Bool) : Nat → Sctl → (Sctl → Option R) → Option R
  | 0, _, _ => none
  | n + 1, q0, k =>
    G_bbr_ctl_bandwidth cp n q0 (fun r23 r24 => cond (decide (r23 = 0)) (k q0) (cond (decide ((wr .i64 (5 * q0.xCc_Full)) ≤ (wr .i64 (4 * r23)))) (k (Sctl.mk q0.xCc_Kind q0.xCc_Mss q0.xCc_Cwnd q0.xCc_Ssthresh q0.xCc_Acc q0.xCc_Wmax q0.xCc_Epoch q0.xCc_K q0.xCc_West q0.xCc_Start q0.xCc_Mode q0.xCc_Bw q0.xCc_MinRtt q0.xCc_MinAt q0.xCc_Round q0.xCc_NextAt r23 0 q0.xCc_Phase q0.xCc_PhaseAt q0.xCc_DoneAt q0.xCc_Prior)) (cond (decide ((mn 3 (wr .i64 (q0.xCc_FullN + 1))) = 3)) (k (Sctl.mk q0.xCc_Kind q0.xCc_Mss q0.xCc_Cwnd q0.xCc_Ssthresh q0.xCc_Acc q0.xCc_Wmax q0.xCc_Epoch q0.xCc_K q0.xCc_West q0.xCc_Start 2 q0.xCc_Bw q0.xCc_MinRtt q0.xCc_MinAt q0.xCc_Round q0.xCc_NextAt q0.xCc_Full (mn 3 (wr .i64 (q0.xCc_FullN + 1))) q0.xCc_Phase q0.xCc_PhaseAt q0.xCc_DoneAt q0.xCc_Prior)) (k (Sctl.mk q0.xCc_Kind q0.xCc_Mss q0.xCc_Cwnd q0.xCc_Ssthresh q0.xCc_Acc q0.xCc_Wmax q0.xCc_Epoch q0.xCc_K q0.xCc_West q0.xCc_Start q0.xCc_Mode q0.xCc_Bw q0.xCc_MinRtt q0.xCc_MinAt q0.xCc_Round q0.xCc_NextAt q0.xCc_Full (mn 3 (wr .i64 (q0.xCc_FullN + 1))) q0.xCc_Phase q0.xCc_PhaseAt q0.xCc_DoneAt q0.xCc_Prior)))))
/-! math/bits.Mul64 -/
def G_math_bits_Mul64 {R : Type} (cp : Nat → Nat → Bool) : Nat → Int → Int → (Int → Int → Option R) → Option R
  | 0, _, _, _ => none
  | n + 1, p0, p1, k =>
    k (wr .u64 ((wr .u64 ((wr .u64 ((shr .u64 p0 32) * (shr .u64 p1 32))) + (shr .u64 (wr .u64 ((wr .u64 ((shr .u64 p0 32) * (bits .and .u64 p1 4294967295))) + (shr .u64 (wr .u64 ((bits .and .u64 p0 4294967295) * (bits .and .u64 p1 4294967295))) 32))) 32))) + (shr .u64 (wr .u64 ((bits .and .u64 (wr .u64 ((wr .u64 ((shr .u64 p0 32) * (bits .and .u64 p1 4294967295))) + (shr .u64 (wr .u64 ((bits .and .u64 p0 4294967295) * (bits .and .u64 p1 4294967295))) 32))) 4294967295) + (wr .u64 ((bits .and .u64 p0 4294967295) * (shr .u64 p1 32))))) 32))) (wr .u64 (p0 * p1))
/-! math/bits.Len64 -/
def G_math_bits_Len64 {R : Type} (cp : Nat → Nat → Bool) : Nat → Int → (Int → Option R) → Option R
  | 0, _, _ => none
  | n + 1, p0, k =>
    cond (decide (4294967296 ≤ p0)) (cond (decide (65536 ≤ (shr .u64 p0 32))) (cond (decide (256 ≤ (shr .u64 (shr .u64 p0 32) 16))) (cond (decide (0 ≤ wr .u8 (shr .u64 (shr .u64 (shr .u64 p0 32) 16) 8))) (cond (decide (wr .u8 (shr .u64 (shr .u64 (shr .u64 p0 32) 16) 8) < (ByteArray.size tab256_2793 : Int))) (k (wr .i64 ((wr .i64 ((wr .i64 (32 + 16)) + 8)) + (wr .i64 ((tab256_2793.data.getD (Int.toNat (wr .u8 (shr .u64 (shr .u64 (shr .u64 p0 32) 16) 8))) 0).toNat : Int))))) (none)) (none)) (cond (decide (0 ≤ wr .u8 (shr .u64 (shr .u64 p0 32) 16))) (cond (decide (wr .u8 (shr .u64 (shr .u64 p0 32) 16) < (ByteArray.size tab256_2793 : Int))) (k (wr .i64 ((wr .i64 (32 + 16)) + (wr .i64 ((tab256_2793.data.getD (Int.toNat (wr .u8 (shr .u64 (shr .u64 p0 32) 16))) 0).toNat : Int))))) (none)) (none))) (cond (decide (256 ≤ (shr .u64 p0 32))) (cond (decide (0 ≤ wr .u8 (shr .u64 (shr .u64 p0 32) 8))) (cond (decide (wr .u8 (shr .u64 (shr .u64 p0 32) 8) < (ByteArray.size tab256_2793 : Int))) (k (wr .i64 ((wr .i64 (32 + 8)) + (wr .i64 ((tab256_2793.data.getD (Int.toNat (wr .u8 (shr .u64 (shr .u64 p0 32) 8))) 0).toNat : Int))))) (none)) (none)) (cond (decide (0 ≤ wr .u8 (shr .u64 p0 32))) (cond (decide (wr .u8 (shr .u64 p0 32) < (ByteArray.size tab256_2793 : Int))) (k (wr .i64 (32 + (wr .i64 ((tab256_2793.data.getD (Int.toNat (wr .u8 (shr .u64 p0 32))) 0).toNat : Int))))) (none)) (none)))) (cond (decide (65536 ≤ p0)) (cond (decide (256 ≤ (shr .u64 p0 16))) (cond (decide (0 ≤ wr .u8 (shr .u64 (shr .u64 p0 16) 8))) (cond (decide (wr .u8 (shr .u64 (shr .u64 p0 16) 8) < (ByteArray.size tab256_2793 : Int))) (k (wr .i64 ((wr .i64 ((wr .i64 (0 + 16)) + 8)) + (wr .i64 ((tab256_2793.data.getD (Int.toNat (wr .u8 (shr .u64 (shr .u64 p0 16) 8))) 0).toNat : Int))))) (none)) (none)) (cond (decide (0 ≤ wr .u8 (shr .u64 p0 16))) (cond (decide (wr .u8 (shr .u64 p0 16) < (ByteArray.size tab256_2793 : Int))) (k (wr .i64 ((wr .i64 (0 + 16)) + (wr .i64 ((tab256_2793.data.getD (Int.toNat (wr .u8 (shr .u64 p0 16))) 0).toNat : Int))))) (none)) (none))) (cond (decide (256 ≤ p0)) (cond (decide (0 ≤ wr .u8 (shr .u64 p0 8))) (cond (decide (wr .u8 (shr .u64 p0 8) < (ByteArray.size tab256_2793 : Int))) (k (wr .i64 ((wr .i64 (0 + 8)) + (wr .i64 ((tab256_2793.data.getD (Int.toNat (wr .u8 (shr .u64 p0 8))) 0).toNat : Int))))) (none)) (none)) (cond (decide (0 ≤ wr .u8 p0)) (cond (decide (wr .u8 p0 < (ByteArray.size tab256_2793 : Int))) (k (wr .i64 (0 + (wr .i64 ((tab256_2793.data.getD (Int.toNat (wr .u8 p0)) 0).toNat : Int))))) (none)) (none))))
/-! math/bits.LeadingZeros64 -/
def G_math_bits_LeadingZeros64 {R : Type} (cp : Nat → Nat → Bool) : Nat → Int → (Int → Option R) → Option R
  | 0, _, _ => none
  | n + 1, p0, k =>
    G_math_bits_Len64 cp n p0 (fun r30 => k (wr .i64 (64 - r30)))
/-! math/bits.Div64 -/
def s_math_bits_Div64_1 {R : Type} (cp : Nat → Nat → Bool) (n : Nat) (p0 p1 p2 : Int) (kn : Int → Int → Int → Int → Int → Int → Int → Int → Int → Option R) (kr : Int → Int → Option R) : Option R :=
  cond (decide (p2 = 0)) (none) (cond (decide (p2 ≤ p0)) (none) (cond (decide (p0 = 0)) (cond (decide (p2 = 0)) (none) (cond (decide (p2 = 0)) (none) (kr (wr .u64 (Int.tdiv p1 p2)) (Int.tmod p1 p2)))) (G_math_bits_LeadingZeros64 cp n p2 (fun r40 => cond (decide ((wr .u64 r40) < 0)) (none) (cond (decide ((wr .u64 r40) < 0)) (none) (cond (decide ((wr .u64 (64 - (wr .u64 r40))) < 0)) (none) (cond (decide ((wr .u64 r40) < 0)) (none) (cond (decide ((shr .u64 (shl .u64 p2 (wr .u64 r40)) 32) = 0)) (none) (kn (shl .u64 p2 (wr .u64 r40)) (wr .u64 r40) (shr .u64 (shl .u64 p2 (wr .u64 r40)) 32) (bits .and .u64 (shl .u64 p2 (wr .u64 r40)) 4294967295) (bits .or .u64 (shl .u64 p0 (wr .u64 r40)) (shr .u64 p1 (wr .u64 (64 - (wr .u64 r40))))) (shr .u64 (shl .u64 p1 (wr .u64 r40)) 32) (bits .and .u64 (shl .u64 p1 (wr .u64 r40)) 4294967295) (wr .u64 (Int.tdiv (bits .or .u64 (shl .u64 p0 (wr .u64 r40)) (shr .u64 p1 (wr .u64 (64 - (wr .u64 r40))))) (shr .u64 (shl .u64 p2 (wr .u64 r40)) 32))) (wr .u64 ((bits .or .u64 (shl .u64 p0 (wr .u64 r40)) (shr .u64 p1 (wr .u64 (64 - (wr .u64 r40))))) - (wr .u64 ((wr .u64 (Int.tdiv (bits .or .u64 (shl .u64 p0 (wr .u64 r40)) (shr .u64 p1 (wr .u64 (64 - (wr .u64 r40))))) (shr .u64 (shl .u64 p2 (wr .u64 r40)) 32))) * (shr .u64 (shl .u64 p2 (wr .u64 r40)) 32))))))))))))))
def s_math_bits_Div64_4 {R : Type} (cp : Nat → Nat → Bool) (n : Nat) (v41 v42 v43 v44 v45 v46 v47 v52 v53 : Int) (kn : Int → Int → Option R) (ke0 : Int → Option R) : Option R :=
  cond (decide (4294967296 ≤ v52)) (cond (decide (4294967296 ≤ (wr .u64 (v53 + v43)))) (ke0 (wr .u64 (v52 - 1))) (kn (wr .u64 (v52 - 1)) (wr .u64 (v53 + v43)))) (cond (decide ((wr .u64 ((wr .u64 (4294967296 * v53)) + v46)) < (wr .u64 (v52 * v44)))) (cond (decide (4294967296 ≤ (wr .u64 (v53 + v43)))) (ke0 (wr .u64 (v52 - 1))) (kn (wr .u64 (v52 - 1)) (wr .u64 (v53 + v43)))) (ke0 v52))
def l_math_bits_Div64_9 {R : Type} (cp : Nat → Nat → Bool) (n : Nat) : Nat → Int → Int → Int → Int → Int → Int → Int → Int → Int → (Int → Option R) → Option R
  | 0, _, _, _, _, _, _, _, _, _, _ => none
  | m + 1, v41, v42, v43, v44, v45, v46, v47, v52, v53, ke0 =>
    s_math_bits_Div64_4 cp n v41 v42 v43 v44 v45 v46 v47 v52 v53 (fun v54 v55 => l_math_bits_Div64_9 cp n m v41 v42 v43 v44 v45 v46 v47 v54 v55 ke0) (fun v56 => (ke0 v56))
def s_math_bits_Div64_10 {R : Type} (cp : Nat → Nat → Bool) (n : Nat) (v41 v42 v43 v44 v45 v46 v47 v48 v49 : Int) (ke0 : Int → Option R) : Option R :=
  l_math_bits_Div64_9 cp n n v41 v42 v43 v44 v45 v46 v47 v48 v49 ke0
def s_math_bits_Div64_12 {R : Type} (cp : Nat → Nat → Bool) (n : Nat) (v41 v42 v43 v44 v45 v46 v47 v48 v49 : Int) (kn : Int → Option R) : Option R :=
  s_math_bits_Div64_10 cp n v41 v42 v43 v44 v45 v46 v47 v48 v49 (fun v57 => (kn v57))
def s_math_bits_Div64_13 {R : Type} (cp : Nat → Nat → Bool) (n : Nat) (v41 v42 v43 v44 v45 v46 v47 v58 : Int) (kn : Int → Int → Int → Option R) : Option R :=
  cond (decide (v43 = 0)) (none) (kn (wr .u64 ((wr .u64 ((wr .u64 ((wr .u64 (v45 * 4294967296)) + v46)) - (wr .u64 (v58 * v41)))) - (wr .u64 ((wr .u64 (Int.tdiv (wr .u64 ((wr .u64 ((wr .u64 (v45 * 4294967296)) + v46)) - (wr .u64 (v58 * v41)))) v43)) * v43)))) (wr .u64 ((wr .u64 ((wr .u64 (v45 * 4294967296)) + v46)) - (wr .u64 (v58 * v41)))) (wr .u64 (Int.tdiv (wr .u64 ((wr .u64 ((wr .u64 (v45 * 4294967296)) + v46)) - (wr .u64 (v58 * v41)))) v43)))
def s_math_bits_Div64_15 {R : Type} (cp : Nat → Nat → Bool) (n : Nat) (v41 v42 v43 v44 v47 v58 v60 v62 v63 : Int) (kn : Int → Int → Option R) (ke2 : Int → Option R) : Option R :=
  cond (decide (4294967296 ≤ v63)) (cond (decide (4294967296 ≤ (wr .u64 (v62 + v43)))) (ke2 (wr .u64 (v63 - 1))) (kn (wr .u64 (v62 + v43)) (wr .u64 (v63 - 1)))) (cond (decide ((wr .u64 ((wr .u64 (4294967296 * v62)) + v47)) < (wr .u64 (v63 * v44)))) (cond (decide (4294967296 ≤ (wr .u64 (v62 + v43)))) (ke2 (wr .u64 (v63 - 1))) (kn (wr .u64 (v62 + v43)) (wr .u64 (v63 - 1)))) (ke2 v63))
def l_math_bits_Div64_20 {R : Type} (cp : Nat → Nat → Bool) (n : Nat) : Nat → Int → Int → Int → Int → Int → Int → Int → Int → Int → (Int → Option R) → Option R
  | 0, _, _, _, _, _, _, _, _, _, _ => none
  | m + 1, v41, v42, v43, v44, v47, v58, v60, v62, v63, ke2 =>
    s_math_bits_Div64_15 cp n v41 v42 v43 v44 v47 v58 v60 v62 v63 (fun v64 v65 => l_math_bits_Div64_20 cp n m v41 v42 v43 v44 v47 v58 v60 v64 v65 ke2) (fun v66 => (ke2 v66))
def s_math_bits_Div64_21 {R : Type} (cp : Nat → Nat → Bool) (n : Nat) (v41 v42 v43 v44 v47 v58 v59 v60 v61 : Int) (ke2 : Int → Option R) : Option R :=
  l_math_bits_Div64_20 cp n n v41 v42 v43 v44 v47 v58 v60 v59 v61 ke2
def s_math_bits_Div64_23 {R : Type} (cp : Nat → Nat → Bool) (n : Nat) (v41 v42 v43 v44 v47 v58 v59 v60 v61 : Int) (kn : Int → Option R) : Option R :=
  s_math_bits_Div64_21 cp n v41 v42 v43 v44 v47 v58 v59 v60 v61 (fun v67 => (kn v67))
def s_math_bits_Div64_24 {R : Type} (cp : Nat → Nat → Bool) (n : Nat) (v41 v42 v47 v58 v60 v68 : Int) (kr : Int → Int → Option R) : Option R :=
  cond (decide (v42 < 0)) (none) (kr (wr .u64 ((wr .u64 (v58 * 4294967296)) + v68)) (shr .u64 (wr .u64 ((wr .u64 ((wr .u64 (v60 * 4294967296)) + v47)) - (wr .u64 (v68 * v41)))) v42))
def s_math_bits_Div64_27 {R : Type} (cp : Nat → Nat → Bool) (n : Nat) (v41 v42 v43 v44 v47 v58 v59 v60 v61 : Int) (kr : Int → Int → Option R) : Option R :=
  s_math_bits_Div64_23 cp n v41 v42 v43 v44 v47 v58 v59 v60 v61 (fun v68 => s_math_bits_Div64_24 cp n v41 v42 v47 v58 v60 v68 (fun v69 v70 => (kr v69 v70)))
def s_math_bits_Div64_29 {R : Type} (cp : Nat → Nat → Bool) (n : Nat) (v41 v42 v43 v44 v45 v46 v47 v58 : Int) (kr : Int → Int → Option R) : Option R :=
  s_math_bits_Div64_13 cp n v41 v42 v43 v44 v45 v46 v47 v58 (fun v59 v60 v61 => s_math_bits_Div64_27 cp n v41 v42 v43 v44 v47 v58 v59 v60 v61 (fun v71 v72 => (kr v71 v72)))
def s_math_bits_Div64_31 {R : Type} (cp : Nat → Nat → Bool) (n : Nat) (v41 v42 v43 v44 v45 v46 v47 v48 v49 : Int) (kr : Int → Int → Option R) : Option R :=
  s_math_bits_Div64_12 cp n v41 v42 v43 v44 v45 v46 v47 v48 v49 (fun v58 => s_math_bits_Div64_29 cp n v41 v42 v43 v44 v45 v46 v47 v58 (fun v73 v74 => (kr v73 v74)))
def s_math_bits_Div64_33 {R : Type} (cp : Nat → Nat → Bool) (n : Nat) (p0 p1 p2 : Int) (kr : Int → Int → Option R) : Option R :=
  s_math_bits_Div64_1 cp n p0 p1 p2 (fun v41 v42 v43 v44 v45 v46 v47 v48 v49 => s_math_bits_Div64_31 cp n v41 v42 v43 v44 v45 v46 v47 v48 v49 (fun v75 v76 => (kr v75 v76))) (fun v50 v51 => (kr v50 v51))
def G_math_bits_Div64 {R : Type} (cp : Nat → Nat → Bool) : Nat → Int → Int → Int → (Int → Int → Option R) → Option R
  | 0, _, _, _, _ => none
  | n + 1, p0, p1, p2, k =>
    s_math_bits_Div64_33 cp n p0 p1 p2 (fun v77 v78 => k v77 v78)
/-! tideway/seq.MulDiv -/
def G_seq_MulDiv {R : Type} (cp : Nat → Nat → Bool) : Nat → Int → Int → Int → (Int → Int → Option R) → Option R
  | 0, _, _, _, _ => none
  | n + 1, p0, p1, p2, k =>
    cond (decide (p0 < 0)) (k 0 2) (cond (decide (p1 < 0)) (k 0 2) (cond (decide (p2 ≤ 0)) (k 0 2) (G_math_bits_Mul64 cp n (wr .u64 p0) (wr .u64 p1) (fun r28 r29 => cond (decide ((wr .u64 p2) ≤ r28)) (k 9223372036854775807 0) (G_math_bits_Div64 cp n r28 r29 (wr .u64 p2) (fun r79 r80 => k (wr .i64 (mn r79 9223372036854775807)) 0))))))
/-! (*tideway/bbr.ctl).product -/
def G_bbr_ctl_product {R : Type} (cp : Nat → Nat → Bool) : Nat → Sctl → (Int → Sctl → Option R) → Option R
  | 0, _, _ => none
  | n + 1, q0, k =>
    G_bbr_ctl_bandwidth cp n q0 (fun r26 r27 => G_seq_MulDiv cp n r26 q0.xCc_MinRtt 1000000 (fun r81 r82 => k (mn 1073741824 r81) q0))
/-! (*tideway/bbr.ctl).probe -/
def G_bbr_ctl_probe {R : Type} (cp : Nat → Nat → Bool) : Nat → Int → Sctl → (Sctl → Option R) → Option R
  | 0, _, _, _ => none
  | n + 1, p1, q0, k =>
    k (Sctl.mk q0.xCc_Kind q0.xCc_Mss q0.xCc_Cwnd q0.xCc_Ssthresh q0.xCc_Acc q0.xCc_Wmax q0.xCc_Epoch q0.xCc_K q0.xCc_West q0.xCc_Start 3 q0.xCc_Bw q0.xCc_MinRtt q0.xCc_MinAt q0.xCc_Round q0.xCc_NextAt q0.xCc_Full q0.xCc_FullN 2 p1 q0.xCc_DoneAt q0.xCc_Prior)
/-! (*tideway/bbr.ctl).cycle -/
def G_bbr_ctl_cycle {R : Type} (cp : Nat → Nat → Bool) : Nat → SSample → Sctl → (Sctl → Option R) → Option R
  | 0, _, _, _ => none
  | n + 1, p1, q0, k =>
    cond (decide (q0.xCc_Mode = 2)) (G_bbr_ctl_product cp n q0 (fun r83 r84 => cond (decide (p1.xFlight ≤ r83)) (G_bbr_ctl_probe cp n p1.xNow q0 (fun r85 => k r85)) (cond (decide (q0.xCc_Mode = 3)) (cond (decide (q0.xCc_MinRtt < (wr .i64 (p1.xNow - q0.xCc_PhaseAt)))) (k (Sctl.mk q0.xCc_Kind q0.xCc_Mss q0.xCc_Cwnd q0.xCc_Ssthresh q0.xCc_Acc q0.xCc_Wmax q0.xCc_Epoch q0.xCc_K q0.xCc_West q0.xCc_Start q0.xCc_Mode q0.xCc_Bw q0.xCc_MinRtt q0.xCc_MinAt q0.xCc_Round q0.xCc_NextAt q0.xCc_Full q0.xCc_FullN (Int.tmod (wr .i64 (q0.xCc_Phase + 1)) 8) p1.xNow q0.xCc_DoneAt q0.xCc_Prior)) (k q0)) (k q0)))) (cond (decide (q0.xCc_Mode = 3)) (cond (decide (q0.xCc_MinRtt < (wr .i64 (p1.xNow - q0.xCc_PhaseAt)))) (k (Sctl.mk q0.xCc_Kind q0.xCc_Mss q0.xCc_Cwnd q0.xCc_Ssthresh q0.xCc_Acc q0.xCc_Wmax q0.xCc_Epoch q0.xCc_K q0.xCc_West q0.xCc_Start q0.xCc_Mode q0.xCc_Bw q0.xCc_MinRtt q0.xCc_MinAt q0.xCc_Round q0.xCc_NextAt q0.xCc_Full q0.xCc_FullN (Int.tmod (wr .i64 (q0.xCc_Phase + 1)) 8) p1.xNow q0.xCc_DoneAt q0.xCc_Prior)) (k q0)) (k q0))
/-! (*tideway/bbr.ctl).ask -/
def s_bbr_ctl_ask_1 {R : Type} (cp : Nat → Nat → Bool) (n : Nat) (p1 : SSample) (p2 : Bool) (q0 : Sctl) (kn : Option R) : Option R :=
  kn
def s_bbr_ctl_ask_3 {R : Type} (cp : Nat → Nat → Bool) (n : Nat) (p1 : SSample) (p2 : Bool) (q0 : Sctl) (kn : Bool → Option R) : Option R :=
  cond (p2) (kn (!decide (q0.xCc_Mode = 4))) (kn false)
def s_bbr_ctl_ask_5 {R : Type} (cp : Nat → Nat → Bool) (n : Nat) (p1 : SSample) (q0 : Sctl) (v87 : Bool) (kn : SCc → Option R) : Option R :=
  cond (v87) (kn (SCc.mk q0.xCc_Kind q0.xCc_Mss q0.xCc_Cwnd q0.xCc_Ssthresh q0.xCc_Acc q0.xCc_Wmax q0.xCc_Epoch q0.xCc_K q0.xCc_West q0.xCc_Start 4 q0.xCc_Bw q0.xCc_MinRtt q0.xCc_MinAt q0.xCc_Round q0.xCc_NextAt q0.xCc_Full q0.xCc_FullN q0.xCc_Phase q0.xCc_PhaseAt 0 q0.xCc_Cwnd)) (cond (!decide (q0.xCc_Mode = 4)) (kn (SCc.mk q0.xCc_Kind q0.xCc_Mss q0.xCc_Cwnd q0.xCc_Ssthresh q0.xCc_Acc q0.xCc_Wmax q0.xCc_Epoch q0.xCc_K q0.xCc_West q0.xCc_Start q0.xCc_Mode q0.xCc_Bw q0.xCc_MinRtt q0.xCc_MinAt q0.xCc_Round q0.xCc_NextAt q0.xCc_Full q0.xCc_FullN q0.xCc_Phase q0.xCc_PhaseAt q0.xCc_DoneAt q0.xCc_Prior)) (cond (decide (q0.xCc_DoneAt = 0)) (cond (decide (p1.xFlight ≤ (wr .i64 (4 * q0.xCc_Mss)))) (kn (SCc.mk q0.xCc_Kind q0.xCc_Mss q0.xCc_Cwnd q0.xCc_Ssthresh q0.xCc_Acc q0.xCc_Wmax q0.xCc_Epoch q0.xCc_K q0.xCc_West q0.xCc_Start q0.xCc_Mode q0.xCc_Bw q0.xCc_MinRtt q0.xCc_MinAt q0.xCc_Round q0.xCc_NextAt q0.xCc_Full q0.xCc_FullN q0.xCc_Phase q0.xCc_PhaseAt (mn 1125899906842624 (wr .i64 (p1.xNow + 200000))) q0.xCc_Prior)) (cond (decide (0 < q0.xCc_DoneAt)) (cond (decide (q0.xCc_DoneAt ≤ p1.xNow)) (cond (decide (q0.xCc_FullN = 3)) (G_bbr_ctl_probe cp n p1.xNow (Sctl.mk q0.xCc_Kind q0.xCc_Mss (mx q0.xCc_Cwnd q0.xCc_Prior) q0.xCc_Ssthresh q0.xCc_Acc q0.xCc_Wmax q0.xCc_Epoch q0.xCc_K q0.xCc_West q0.xCc_Start q0.xCc_Mode q0.xCc_Bw q0.xCc_MinRtt p1.xNow q0.xCc_Round q0.xCc_NextAt q0.xCc_Full q0.xCc_FullN q0.xCc_Phase q0.xCc_PhaseAt 0 q0.xCc_Prior) (fun r88 => kn (SCc.mk r88.xCc_Kind r88.xCc_Mss r88.xCc_Cwnd r88.xCc_Ssthresh r88.xCc_Acc r88.xCc_Wmax r88.xCc_Epoch r88.xCc_K r88.xCc_West r88.xCc_Start r88.xCc_Mode r88.xCc_Bw r88.xCc_MinRtt r88.xCc_MinAt r88.xCc_Round r88.xCc_NextAt r88.xCc_Full r88.xCc_FullN r88.xCc_Phase r88.xCc_PhaseAt r88.xCc_DoneAt r88.xCc_Prior))) (kn (SCc.mk q0.xCc_Kind q0.xCc_Mss (mx q0.xCc_Cwnd q0.xCc_Prior) q0.xCc_Ssthresh q0.xCc_Acc q0.xCc_Wmax q0.xCc_Epoch q0.xCc_K q0.xCc_West q0.xCc_Start 1 q0.xCc_Bw q0.xCc_MinRtt p1.xNow q0.xCc_Round q0.xCc_NextAt q0.xCc_Full q0.xCc_FullN q0.xCc_Phase q0.xCc_PhaseAt 0 q0.xCc_Prior))) (kn (SCc.mk q0.xCc_Kind q0.xCc_Mss q0.xCc_Cwnd q0.xCc_Ssthresh q0.xCc_Acc q0.xCc_Wmax q0.xCc_Epoch q0.xCc_K q0.xCc_West q0.xCc_Start q0.xCc_Mode q0.xCc_Bw q0.xCc_MinRtt q0.xCc_MinAt q0.xCc_Round q0.xCc_NextAt q0.xCc_Full q0.xCc_FullN q0.xCc_Phase q0.xCc_PhaseAt q0.xCc_DoneAt q0.xCc_Prior))) (kn (SCc.mk q0.xCc_Kind q0.xCc_Mss q0.xCc_Cwnd q0.xCc_Ssthresh q0.xCc_Acc q0.xCc_Wmax q0.xCc_Epoch q0.xCc_K q0.xCc_West q0.xCc_Start q0.xCc_Mode q0.xCc_Bw q0.xCc_MinRtt q0.xCc_MinAt q0.xCc_Round q0.xCc_NextAt q0.xCc_Full q0.xCc_FullN q0.xCc_Phase q0.xCc_PhaseAt q0.xCc_DoneAt q0.xCc_Prior)))) (cond (decide (0 < q0.xCc_DoneAt)) (cond (decide (q0.xCc_DoneAt ≤ p1.xNow)) (cond (decide (q0.xCc_FullN = 3)) (G_bbr_ctl_probe cp n p1.xNow (Sctl.mk q0.xCc_Kind q0.xCc_Mss (mx q0.xCc_Cwnd q0.xCc_Prior) q0.xCc_Ssthresh q0.xCc_Acc q0.xCc_Wmax q0.xCc_Epoch q0.xCc_K q0.xCc_West q0.xCc_Start q0.xCc_Mode q0.xCc_Bw q0.xCc_MinRtt p1.xNow q0.xCc_Round q0.xCc_NextAt q0.xCc_Full q0.xCc_FullN q0.xCc_Phase q0.xCc_PhaseAt 0 q0.xCc_Prior) (fun r89 => kn (SCc.mk r89.xCc_Kind r89.xCc_Mss r89.xCc_Cwnd r89.xCc_Ssthresh r89.xCc_Acc r89.xCc_Wmax r89.xCc_Epoch r89.xCc_K r89.xCc_West r89.xCc_Start r89.xCc_Mode r89.xCc_Bw r89.xCc_MinRtt r89.xCc_MinAt r89.xCc_Round r89.xCc_NextAt r89.xCc_Full r89.xCc_FullN r89.xCc_Phase r89.xCc_PhaseAt r89.xCc_DoneAt r89.xCc_Prior))) (kn (SCc.mk q0.xCc_Kind q0.xCc_Mss (mx q0.xCc_Cwnd q0.xCc_Prior) q0.xCc_Ssthresh q0.xCc_Acc q0.xCc_Wmax q0.xCc_Epoch q0.xCc_K q0.xCc_West q0.xCc_Start 1 q0.xCc_Bw q0.xCc_MinRtt p1.xNow q0.xCc_Round q0.xCc_NextAt q0.xCc_Full q0.xCc_FullN q0.xCc_Phase q0.xCc_PhaseAt 0 q0.xCc_Prior))) (kn (SCc.mk q0.xCc_Kind q0.xCc_Mss q0.xCc_Cwnd q0.xCc_Ssthresh q0.xCc_Acc q0.xCc_Wmax q0.xCc_Epoch q0.xCc_K q0.xCc_West q0.xCc_Start q0.xCc_Mode q0.xCc_Bw q0.xCc_MinRtt q0.xCc_MinAt q0.xCc_Round q0.xCc_NextAt q0.xCc_Full q0.xCc_FullN q0.xCc_Phase q0.xCc_PhaseAt q0.xCc_DoneAt q0.xCc_Prior))) (kn (SCc.mk q0.xCc_Kind q0.xCc_Mss q0.xCc_Cwnd q0.xCc_Ssthresh q0.xCc_Acc q0.xCc_Wmax q0.xCc_Epoch q0.xCc_K q0.xCc_West q0.xCc_Start q0.xCc_Mode q0.xCc_Bw q0.xCc_MinRtt q0.xCc_MinAt q0.xCc_Round q0.xCc_NextAt q0.xCc_Full q0.xCc_FullN q0.xCc_Phase q0.xCc_PhaseAt q0.xCc_DoneAt q0.xCc_Prior)))))
def s_bbr_ctl_ask_8 {R : Type} (cp : Nat → Nat → Bool) (n : Nat) (p1 : SSample) (p2 : Bool) (q0 : Sctl) (kn : SCc → Option R) : Option R :=
  s_bbr_ctl_ask_3 cp n p1 p2 q0 (fun v87 => s_bbr_ctl_ask_5 cp n p1 q0 v87 (fun v90 => (kn v90)))
def s_bbr_ctl_ask_10 {R : Type} (cp : Nat → Nat → Bool) (n : Nat) (p1 : SSample) (p2 : Bool) (q0 : Sctl) (kn : SCc → Option R) : Option R :=
  s_bbr_ctl_ask_8 cp n p1 p2 q0 (fun v91 => (kn v91))
def s_bbr_ctl_ask_12 {R : Type} (cp : Nat → Nat → Bool) (n : Nat) (p1 : SSample) (p2 : Bool) (q0 : Sctl) (kn : SCc → Option R) : Option R :=
  s_bbr_ctl_ask_1 cp n p1 p2 q0 (s_bbr_ctl_ask_10 cp n p1 p2 q0 (fun v92 => (kn v92)))
def G_bbr_ctl_ask {R : Type} (cp : Nat → Nat → Bool) : Nat → SSample → Bool → Sctl → (Sctl → Option R) → Option R
  | 0, _, _, _, _ => none
  | n + 1, p1, p2, q0, k =>
    s_bbr_ctl_ask_12 cp n p1 p2 q0 (fun v93 => k (Sctl.mk v93.xKind v93.xMss v93.xCwnd v93.xSsthresh v93.xAcc v93.xWmax v93.xEpoch v93.xK v93.xWest v93.xStart v93.xMode v93.xBw v93.xMinRtt v93.xMinAt v93.xRound v93.xNextAt v93.xFull v93.xFullN v93.xPhase v93.xPhaseAt v93.xDoneAt v93.xPrior))
/-! tideway/seq.Clamp -/
def G_seq_Clamp {R : Type} (cp : Nat → Nat → Bool) : Nat → Int → Int → Int → (Int → Option R) → Option R
  | 0, _, _, _, _ => none
  | n + 1, p0, p1, p2, k =>
    k (mx p1 (mn p0 p2))
/-! (*tideway/bbr.ctl).window -/
def s_bbr_ctl_window_1 {R : Type} (cp : Nat → Nat → Bool) (n : Nat) (p1 : SSample) (q0 : Sctl) (kn : Int → Option R) : Option R :=
  G_bbr_ctl_product cp n q0 (fun r34 r35 => kn (mx (wr .i64 (2 * r34)) (wr .i64 (4 * q0.xCc_Mss))))
def s_bbr_ctl_window_3 {R : Type} (cp : Nat → Nat → Bool) (n : Nat) (p1 : SSample) (q0 : Sctl) (v36 : Int) (kn : Int → Option R) : Option R :=
  cond (decide (q0.xCc_Mode = 4)) (kn (mn q0.xCc_Cwnd (wr .i64 (4 * q0.xCc_Mss)))) (cond (decide (q0.xCc_FullN = 3)) (kn (mn v36 (wr .i64 (q0.xCc_Cwnd + p1.xAcked)))) (cond (decide (q0.xCc_Cwnd < v36)) (kn (wr .i64 (q0.xCc_Cwnd + p1.xAcked))) (G_bbr_ctl_bandwidth cp n q0 (fun r37 r38 => cond (decide (r37 = 0)) (kn (wr .i64 (q0.xCc_Cwnd + p1.xAcked))) (kn q0.xCc_Cwnd)))))
def s_bbr_ctl_window_5 {R : Type} (cp : Nat → Nat → Bool) (n : Nat) (q0 : Sctl) (v39 : Int) (kn : Int → Option R) : Option R :=
  G_seq_Clamp cp n v39 q0.xCc_Mss 1073741824 (fun r40 => kn r40)
def s_bbr_ctl_window_8 {R : Type} (cp : Nat → Nat → Bool) (n : Nat) (p1 : SSample) (q0 : Sctl) (v36 : Int) (kn : Int → Option R) : Option R :=
  s_bbr_ctl_window_3 cp n p1 q0 v36 (fun v39 => s_bbr_ctl_window_5 cp n q0 v39 (fun v41 => (kn v41)))
def s_bbr_ctl_window_10 {R : Type} (cp : Nat → Nat → Bool) (n : Nat) (p1 : SSample) (q0 : Sctl) (kn : Int → Option R) : Option R :=
  s_bbr_ctl_window_1 cp n p1 q0 (fun v36 => s_bbr_ctl_window_8 cp n p1 q0 v36 (fun v42 => (kn v42)))
def G_bbr_ctl_window {R : Type} (cp : Nat → Nat → Bool) : Nat → SSample → Sctl → (Sctl → Option R) → Option R
  | 0, _, _, _ => none
  | n + 1, p1, q0, k =>
    s_bbr_ctl_window_10 cp n p1 q0 (fun v43 => k (Sctl.mk q0.xCc_Kind q0.xCc_Mss v43 q0.xCc_Ssthresh q0.xCc_Acc q0.xCc_Wmax q0.xCc_Epoch q0.xCc_K q0.xCc_West q0.xCc_Start q0.xCc_Mode q0.xCc_Bw q0.xCc_MinRtt q0.xCc_MinAt q0.xCc_Round q0.xCc_NextAt q0.xCc_Full q0.xCc_FullN q0.xCc_Phase q0.xCc_PhaseAt q0.xCc_DoneAt q0.xCc_Prior))
/-! tideway/bbr.Acked -/
def s_bbr_Acked_1 {R : Type} (cp : Nat → Nat → Bool) (n : Nat) (p0 : SCc) (p1 : SSample) (kn : Bool → SCc → Option R) (kr : Int → Option R) : Option R :=
  G_bbr_Check cp n p0 (fun r66 => cond (!decide (r66 = 0)) (kr r66) (G_bbr_within cp n 1125899906842624 [p1.xNow, p1.xGiven, p1.xBefore, p1.xRtt] (fun r67 => cond (!r67) (kr 2) (G_bbr_within cp n 1073741824 [p1.xAcked, p1.xFlight] (fun r68 => cond (!r68) (kr 2) (cond (decide (p1.xRate < 0)) (kr 2) (G_bbr_ctl_round cp n p1 (Sctl.mk p0.xKind p0.xMss p0.xCwnd p0.xSsthresh p0.xAcc p0.xWmax p0.xEpoch p0.xK p0.xWest p0.xStart p0.xMode p0.xBw p0.xMinRtt p0.xMinAt p0.xRound p0.xNextAt p0.xFull p0.xFullN p0.xPhase p0.xPhaseAt p0.xDoneAt p0.xPrior) (fun r69 r70 => kn r69 (SCc.mk r70.xCc_Kind r70.xCc_Mss r70.xCc_Cwnd r70.xCc_Ssthresh r70.xCc_Acc r70.xCc_Wmax r70.xCc_Epoch r70.xCc_K r70.xCc_West r70.xCc_Start r70.xCc_Mode r70.xCc_Bw r70.xCc_MinRtt r70.xCc_MinAt r70.xCc_Round r70.xCc_NextAt r70.xCc_Full r70.xCc_FullN r70.xCc_Phase r70.xCc_PhaseAt r70.xCc_DoneAt r70.xCc_Prior)))))))))
def s_bbr_Acked_4 {R : Type} (cp : Nat → Nat → Bool) (n : Nat) (p1 : SSample) (v71 : Bool) (v72 : SCc) (kn : Bool → SCc → Option R) : Option R :=
  G_bbr_ctl_speed cp n p1 (Sctl.mk v72.xKind v72.xMss v72.xCwnd v72.xSsthresh v72.xAcc v72.xWmax v72.xEpoch v72.xK v72.xWest v72.xStart v72.xMode v72.xBw v72.xMinRtt v72.xMinAt v72.xRound v72.xNextAt v72.xFull v72.xFullN v72.xPhase v72.xPhaseAt v72.xDoneAt v72.xPrior) (fun r78 => G_bbr_ctl_shortest cp n p1 r78 (fun r79 r80 => cond (v71) (cond (decide (r80.xCc_Mode = 1)) (cond (!p1.xIdle) (G_bbr_ctl_full cp n r80 (fun r81 => kn r79 (SCc.mk r81.xCc_Kind r81.xCc_Mss r81.xCc_Cwnd r81.xCc_Ssthresh r81.xCc_Acc r81.xCc_Wmax r81.xCc_Epoch r81.xCc_K r81.xCc_West r81.xCc_Start r81.xCc_Mode r81.xCc_Bw r81.xCc_MinRtt r81.xCc_MinAt r81.xCc_Round r81.xCc_NextAt r81.xCc_Full r81.xCc_FullN r81.xCc_Phase r81.xCc_PhaseAt r81.xCc_DoneAt r81.xCc_Prior))) (kn r79 (SCc.mk r80.xCc_Kind r80.xCc_Mss r80.xCc_Cwnd r80.xCc_Ssthresh r80.xCc_Acc r80.xCc_Wmax r80.xCc_Epoch r80.xCc_K r80.xCc_West r80.xCc_Start r80.xCc_Mode r80.xCc_Bw r80.xCc_MinRtt r80.xCc_MinAt r80.xCc_Round r80.xCc_NextAt r80.xCc_Full r80.xCc_FullN r80.xCc_Phase r80.xCc_PhaseAt r80.xCc_DoneAt r80.xCc_Prior))) (kn r79 (SCc.mk r80.xCc_Kind r80.xCc_Mss r80.xCc_Cwnd r80.xCc_Ssthresh r80.xCc_Acc r80.xCc_Wmax r80.xCc_Epoch r80.xCc_K r80.xCc_West r80.xCc_Start r80.xCc_Mode r80.xCc_Bw r80.xCc_MinRtt r80.xCc_MinAt r80.xCc_Round r80.xCc_NextAt r80.xCc_Full r80.xCc_FullN r80.xCc_Phase r80.xCc_PhaseAt r80.xCc_DoneAt r80.xCc_Prior))) (kn r79 (SCc.mk r80.xCc_Kind r80.xCc_Mss r80.xCc_Cwnd r80.xCc_Ssthresh r80.xCc_Acc r80.xCc_Wmax r80.xCc_Epoch r80.xCc_K r80.xCc_West r80.xCc_Start r80.xCc_Mode r80.xCc_Bw r80.xCc_MinRtt r80.xCc_MinAt r80.xCc_Round r80.xCc_NextAt r80.xCc_Full r80.xCc_FullN r80.xCc_Phase r80.xCc_PhaseAt r80.xCc_DoneAt r80.xCc_Prior))))
def s_bbr_Acked_6 {R : Type} (cp : Nat → Nat → Bool) (n : Nat) (p1 : SSample) (v82 : Bool) (v83 : SCc) (kr : SCc → Option R) : Option R :=
  G_bbr_ctl_cycle cp n p1 (Sctl.mk v83.xKind v83.xMss v83.xCwnd v83.xSsthresh v83.xAcc v83.xWmax v83.xEpoch v83.xK v83.xWest v83.xStart v83.xMode v83.xBw v83.xMinRtt v83.xMinAt v83.xRound v83.xNextAt v83.xFull v83.xFullN v83.xPhase v83.xPhaseAt v83.xDoneAt v83.xPrior) (fun r84 => G_bbr_ctl_ask cp n p1 v82 r84 (fun r85 => G_bbr_ctl_window cp n p1 r85 (fun r86 => kr (SCc.mk r86.xCc_Kind r86.xCc_Mss r86.xCc_Cwnd r86.xCc_Ssthresh r86.xCc_Acc r86.xCc_Wmax r86.xCc_Epoch r86.xCc_K r86.xCc_West r86.xCc_Start r86.xCc_Mode r86.xCc_Bw r86.xCc_MinRtt r86.xCc_MinAt r86.xCc_Round r86.xCc_NextAt r86.xCc_Full r86.xCc_FullN r86.xCc_Phase r86.xCc_PhaseAt r86.xCc_DoneAt r86.xCc_Prior))))
def s_bbr_Acked_9 {R : Type} (cp : Nat → Nat → Bool) (n : Nat) (p1 : SSample) (v71 : Bool) (v72 : SCc) (kr : SCc → Option R) : Option R :=
  s_bbr_Acked_4 cp n p1 v71 v72 (fun v82 v83 => s_bbr_Acked_6 cp n p1 v82 v83 (fun v87 => (kr v87)))
def s_bbr_Acked_11 {R : Type} (cp : Nat → Nat → Bool) (n : Nat) (p0 : SCc) (p1 : SSample) (kr : Int → SCc → Option R) : Option R :=
  s_bbr_Acked_1 cp n p0 p1 (fun v71 v72 => s_bbr_Acked_9 cp n p1 v71 v72 (fun v88 => (kr 0 v88))) (fun v73 => (kr v73 (SCc.mk 0 0 0 0 0 0 0 0 0 0 0 [] 0 0 0 0 0 0 0 0 0 0)))
def G_bbr_Acked {R : Type} (cp : Nat → Nat → Bool) : Nat → SCc → SSample → (SCc → Int → Option R) → Option R
  | 0, _, _, _ => none
  | n + 1, p0, p1, k =>
    s_bbr_Acked_11 cp n p0 p1 (fun v89 v90 => k v90 v89)
/-! tideway/bbr.Timeout -/
def G_bbr_Timeout {R : Type} (cp : Nat → Nat → Bool) : Nat → SCc → Int → (SCc → Int → Option R) → Option R
  | 0, _, _, _ => none
  | n + 1, p0, p1, k =>
    G_bbr_Check cp n p0 (fun r93 => cond (!decide (r93 = 0)) (k (SCc.mk 0 0 0 0 0 0 0 0 0 0 0 [] 0 0 0 0 0 0 0 0 0 0) 230) (G_bbr_within cp n 1073741824 [p1] (fun r94 => cond (!r94) (k (SCc.mk 0 0 0 0 0 0 0 0 0 0 0 [] 0 0 0 0 0 0 0 0 0 0) 2) (k (SCc.mk p0.xKind p0.xMss p0.xMss p0.xSsthresh p0.xAcc p0.xWmax p0.xEpoch p0.xK p0.xWest p0.xStart p0.xMode p0.xBw p0.xMinRtt p0.xMinAt p0.xRound p0.xNextAt p0.xFull p0.xFullN p0.xPhase p0.xPhaseAt p0.xDoneAt p0.xCwnd) 0))))
/-! tideway/bbr.Bandwidth -/
def G_bbr_Bandwidth {R : Type} (cp : Nat → Nat → Bool) : Nat → SCc → (Int → Option R) → Option R
  | 0, _, _ => none
  | n + 1, p0, k =>
    G_bbr_Check cp n p0 (fun r29 => cond (!decide (r29 = 0)) (k 0) (G_bbr_ctl_bandwidth cp n (Sctl.mk p0.xKind p0.xMss p0.xCwnd p0.xSsthresh p0.xAcc p0.xWmax p0.xEpoch p0.xK p0.xWest p0.xStart p0.xMode p0.xBw p0.xMinRtt p0.xMinAt p0.xRound p0.xNextAt p0.xFull p0.xFullN p0.xPhase p0.xPhaseAt p0.xDoneAt p0.xPrior) (fun r30 r31 => k r30)))
/-! tideway/bbr.Product -/
def G_bbr_Product {R : Type} (cp : Nat → Nat → Bool) : Nat → SCc → (Int → Option R) → Option R
  | 0, _, _ => none
  | n + 1, p0, k =>
    G_bbr_Check cp n p0 (fun r33 => cond (!decide (r33 = 0)) (k 0) (G_bbr_ctl_product cp n (Sctl.mk p0.xKind p0.xMss p0.xCwnd p0.xSsthresh p0.xAcc p0.xWmax p0.xEpoch p0.xK p0.xWest p0.xStart p0.xMode p0.xBw p0.xMinRtt p0.xMinAt p0.xRound p0.xNextAt p0.xFull p0.xFullN p0.xPhase p0.xPhaseAt p0.xDoneAt p0.xPrior) (fun r34 r35 => k r34)))
/-! tideway/bbr.Gain -/
def G_bbr_Gain {R : Type} (cp : Nat → Nat → Bool) : Nat → SCc → (Int → Option R) → Option R
  | 0, _, _ => none
  | n + 1, p0, k =>
    G_bbr_Check cp n p0 (fun r37 => cond (!decide (r37 = 0)) (k 0) (cond (decide (p0.xMode = 1)) (k 289) (cond (decide (p0.xMode = 2)) (k 35) (cond (decide (p0.xMode = 3)) (cond (decide (p0.xPhase = 0)) (k 125) (cond (decide (p0.xMode = 3)) (cond (decide (p0.xPhase = 1)) (k 75) (k 100)) (k 100))) (cond (decide (p0.xMode = 3)) (cond (decide (p0.xPhase = 1)) (k 75) (k 100)) (k 100))))))
/-! tideway/tidewaylaw18.heads -/
def s_law18_heads_1 {R : Type} (cp : Nat → Nat → Bool) (n : Nat) (kn : Int → Int → Int → Int → SCc → SCc → Option R) : Option R :=
  G_bbr_New cp n 10 4 (fun r13 r14 => G_bbr_Acked cp n r13 (SSample.mk 100000 10 100000 1000000 false 10 0 30) (fun r15 r16 => G_bbr_Timeout cp n r15 5 (fun r17 r18 => G_bbr_New cp n 0 1 (fun r19 r20 => kn r14 r16 r18 r20 r15 r17))))
def s_law18_heads_3 {R : Type} (cp : Nat → Nat → Bool) (n : Nat) (v21 v22 v23 v24 : Int) (v25 v26 : SCc) (kr : Bool → Option R) : Option R :=
  G_bbr_Acked cp n (SCc.mk 0 0 0 0 0 0 0 0 0 0 0 [] 0 0 0 0 0 0 0 0 0 0) (SSample.mk 0 0 0 0 false 0 0 0) (fun r27 r28 => cond (decide (v21 = 0)) (cond (decide (v22 = 0)) (G_bbr_Bandwidth cp n v25 (fun r32 => cond (decide (r32 = 1000000)) (G_bbr_Product cp n v25 (fun r36 => cond (decide (r36 = 100000)) (G_bbr_Gain cp n v25 (fun r38 => cond (decide (r38 = 289)) (cond (decide (v25.xRound = 1)) (cond (decide (v23 = 0)) (cond (decide (v26.xCwnd = 10)) (cond (decide (v24 = 2)) (kr (decide (r28 = 230))) (kr false)) (kr false)) (kr false)) (kr false)) (kr false))) (kr false))) (kr false))) (kr false)) (kr false))
def s_law18_heads_6 {R : Type} (cp : Nat → Nat → Bool) (n : Nat) (kr : Bool → Option R) : Option R :=
  s_law18_heads_1 cp n (fun v21 v22 v23 v24 v25 v26 => s_law18_heads_3 cp n v21 v22 v23 v24 v25 v26 (fun v39 => (kr v39)))
def G_law18_heads {R : Type} (cp : Nat → Nat → Bool) : Nat → (Bool → Option R) → Option R
  | 0, _ => none
  | n + 1, k =>
    s_law18_heads_6 cp n (fun v40 => k v40)
/-! tideway/tidewaylaw18.BbrSteady -/
def s_law18_BbrSteady_1 {R : Type} (cp : Nat → Nat → Bool) (n : Nat) (p0 p1 p2 : Int) (kn : Option R) : Option R :=
  kn
def s_law18_BbrSteady_3 {R : Type} (cp : Nat → Nat → Bool) (n : Nat) (p0 p1 p2 : Int) (kn : Bool → Option R) : Option R :=
  cond (decide (p0 < 1)) (kn true) (cond (decide (10000 < p0)) (kn true) (cond (decide (p1 < 1000)) (kn true) (cond (decide (1073741824 < p1)) (kn true) (cond (decide (p2 < 1000)) (kn true) (kn (decide (1000000 < p2)))))))
def s_law18_BbrSteady_5 {R : Type} (cp : Nat → Nat → Bool) (n : Nat) (p0 p1 p2 : Int) (v1 : Bool) (kn : Option R) (kr : Bool → Option R) : Option R :=
  cond (v1) (G_law18_heads cp n (fun r2 => kr r2)) (kn)
def s_law18_BbrSteady_8 {R : Type} (cp : Nat → Nat → Bool) (n : Nat) (p0 p1 p2 : Int) (kn : Option R) (kr : Bool → Option R) : Option R :=
  s_law18_BbrSteady_3 cp n p0 p1 p2 (fun v1 => s_law18_BbrSteady_5 cp n p0 p1 p2 v1 kn (fun v3 => (kr v3)))
def s_law18_BbrSteady_9 {R : Type} (cp : Nat → Nat → Bool) (n : Nat) (p0 p1 p2 : Int) (kn : SCc → Option R) (kr : Option R) : Option R :=
  G_bbr_New cp n p0 10 (fun r9 r10 => cond (!decide (r10 = 0)) (kr) (kn r9))
def s_law18_BbrSteady_12 {R : Type} (cp : Nat → Nat → Bool) (n : Nat) (p0 p1 p2 : Int) (v11 : SCc) (kn : Option R) : Option R :=
  kn
def s_law18_BbrSteady_14 {R : Type} (cp : Nat → Nat → Bool) (n : Nat) (p0 p1 p2 v12 v13 : Int) (v14 : SCc) (kn : Int → Int → SCc → Option R) (kr : Option R) (ke0 : Option R) : Option R :=
  cond (decide (v13 ≤ 12)) (G_bbr_Acked cp n v14 (SSample.mk (wr .i64 (v13 * p2)) (mn (wr .i64 ((wr .i64 ((wr .i64 (Int.tdiv p1 1000)) * (wr .i64 (Int.tdiv p2 1000)))) + 1000000)) 1073741824) p2 p1 false (wr .i64 (v12 + 1000)) v12 0) (fun r15 r16 => cond (!decide (r16 = 0)) (kr) (kn (wr .i64 (v12 + 1000)) (wr .i64 (v13 + 1)) r15))) (ke0)
def l_law18_BbrSteady_19 {R : Type} (cp : Nat → Nat → Bool) (n : Nat) : Nat → Int → Int → Int → Int → Int → SCc → (Option R) → (SCc → Option R) → Option R
  | 0, _, _, _, _, _, _, _, _ => none
  | m + 1, p0, p1, p2, v12, v13, v14, kr, ke0 =>
    s_law18_BbrSteady_14 cp n p0 p1 p2 v12 v13 v14 (fun v17 v18 v19 => l_law18_BbrSteady_19 cp n m p0 p1 p2 v17 v18 v19 kr ke0) kr (ke0 v14)
def s_law18_BbrSteady_20 {R : Type} (cp : Nat → Nat → Bool) (n : Nat) (p0 p1 p2 : Int) (v11 : SCc) (kr : Option R) (ke0 : SCc → Option R) : Option R :=
  l_law18_BbrSteady_19 cp n n p0 p1 p2 0 1 v11 kr ke0
def s_law18_BbrSteady_22 {R : Type} (cp : Nat → Nat → Bool) (n : Nat) (p0 p1 p2 : Int) (v11 : SCc) (kn : SCc → Option R) (kr : Option R) : Option R :=
  s_law18_BbrSteady_20 cp n p0 p1 p2 v11 kr (fun v20 => (kn v20))
def s_law18_BbrSteady_24 {R : Type} (cp : Nat → Nat → Bool) (n : Nat) (p0 p1 p2 : Int) (v11 : SCc) (kn : SCc → Option R) (kr : Option R) : Option R :=
  s_law18_BbrSteady_12 cp n p0 p1 p2 v11 (s_law18_BbrSteady_22 cp n p0 p1 p2 v11 (fun v21 => (kn v21)) kr)
def s_law18_BbrSteady_25 {R : Type} (cp : Nat → Nat → Bool) (n : Nat) (p0 p1 p2 : Int) (v22 : SCc) (kr : Bool → Option R) : Option R :=
  G_bbr_Product cp n v22 (fun r23 => cond (decide (v22.xFullN = 3)) (cond (decide (v22.xMode = 3)) (G_bbr_Bandwidth cp n v22 (fun r24 => cond (decide (r24 = p1)) (cond (decide (v22.xMinRtt = p2)) (cond (decide (v22.xCwnd = (mn (mx (wr .i64 (4 * p0)) (wr .i64 (2 * r23))) 1073741824))) (G_law18_heads cp n (fun r25 => kr r25)) (cond (decide (v22.xCwnd < (mx (wr .i64 (4 * p0)) (wr .i64 (2 * r23))))) (cond (decide ((wr .i64 (10 * p0)) ≤ v22.xCwnd)) (G_law18_heads cp n (fun r26 => kr r26)) (kr false)) (kr false))) (kr false)) (kr false))) (kr false)) (kr false))
def s_law18_BbrSteady_28 {R : Type} (cp : Nat → Nat → Bool) (n : Nat) (p0 p1 p2 : Int) (v11 : SCc) (kr : Bool → Option R) : Option R :=
  s_law18_BbrSteady_24 cp n p0 p1 p2 v11 (fun v22 => s_law18_BbrSteady_25 cp n p0 p1 p2 v22 (fun v27 => (kr v27))) (kr false)
def s_law18_BbrSteady_30 {R : Type} (cp : Nat → Nat → Bool) (n : Nat) (p0 p1 p2 : Int) (kr : Bool → Option R) : Option R :=
  s_law18_BbrSteady_9 cp n p0 p1 p2 (fun v11 => s_law18_BbrSteady_28 cp n p0 p1 p2 v11 (fun v28 => (kr v28))) (kr false)
def s_law18_BbrSteady_32 {R : Type} (cp : Nat → Nat → Bool) (n : Nat) (p0 p1 p2 : Int) (kr : Bool → Option R) : Option R :=
  s_law18_BbrSteady_8 cp n p0 p1 p2 (s_law18_BbrSteady_30 cp n p0 p1 p2 (fun v29 => (kr v29))) (fun v4 => (kr v4))
def s_law18_BbrSteady_34 {R : Type} (cp : Nat → Nat → Bool) (n : Nat) (p0 p1 p2 : Int) (kr : Bool → Option R) : Option R :=
  s_law18_BbrSteady_1 cp n p0 p1 p2 (s_law18_BbrSteady_32 cp n p0 p1 p2 (fun v30 => (kr v30)))
def G_law18_BbrSteady {R : Type} (cp : Nat → Nat → Bool) : Nat → Int → Int → Int → (Bool → Option R) → Option R
  | 0, _, _, _, _ => none
  | n + 1, p0, p1, p2, k =>
    s_law18_BbrSteady_34 cp n p0 p1 p2 (fun v31 => k v31)
def ca_reno_New {R : Type} (cp : Nat → Nat → Bool) (n : Nat) (av : Fr) (cs : List Fr) (k : Ret2 RW → Option R) : Option R := match av, cs with
  | [y0, y1], [] => (dI .i64 y0).bind fun p0 => (dI .i64 y1).bind fun p1 => G_reno_New cp n p0 p1 (fun r0 r1 => k ⟨.tup [.agg (eCc r0), (tL r1)], []⟩)
  | _, _ => none
def ca_bbr_New {R : Type} (cp : Nat → Nat → Bool) (n : Nat) (av : Fr) (cs : List Fr) (k : Ret2 RW → Option R) : Option R := match av, cs with
  | [y0, y1], [] => (dI .i64 y0).bind fun p0 => (dI .i64 y1).bind fun p1 => G_bbr_New cp n p0 p1 (fun r0 r1 => k ⟨.tup [.agg (eCc r0), (tL r1)], []⟩)
  | _, _ => none
def ca_bbr_within {R : Type} (cp : Nat → Nat → Bool) (n : Nat) (av : Fr) (cs : List Fr) (k : Ret2 RW → Option R) : Option R := match av, cs with
  | [y0, y1], [] => (dI .i64 y0).bind fun p0 => (dRint false y1).bind fun p1 => G_bbr_within cp n p0 p1 (fun r0 => k ⟨(tB r0), []⟩)
  | _, _ => none
def ca_filter_may {R : Type} (cp : Nat → Nat → Bool) (n : Nat) (av : Fr) (cs : List Fr) (k : Ret2 RW → Option R) : Option R := match av, cs with
  | [y0], [] => (dA y0).bind fun c0_ => (dEntry c0_).bind fun p0 => G_filter_may cp n p0 (fun r0 => k ⟨(tB r0), []⟩)
  | _, _ => none
def ca_filter_beats {R : Type} (cp : Nat → Nat → Bool) (n : Nat) (av : Fr) (cs : List Fr) (k : Ret2 RW → Option R) : Option R := match av, cs with
  | [y0, y1, y2], [] => (dI .i64 y0).bind fun p0 => (dI .i64 y1).bind fun p1 => (dB y2).bind fun p2 => G_filter_beats cp n p0 p1 p2 (fun r0 => k ⟨(tB r0), []⟩)
  | _, _ => none
def ca_filter_Check {R : Type} (cp : Nat → Nat → Bool) (n : Nat) (av : Fr) (cs : List Fr) (k : Ret2 RW → Option R) : Option R := match av, cs with
  | [y0, y1], [] => (dREntry false y0).bind fun p0 => (dB y1).bind fun p1 => G_filter_Check cp n p0 p1 (fun r0 => k ⟨(tL r0), []⟩)
  | _, _ => none
def ca_bbr_ctl_entries {R : Type} (cp : Nat → Nat → Bool) (n : Nat) (av : Fr) (cs : List Fr) (k : Ret2 RW → Option R) : Option R := match av, cs with
  | [y0], [w0] => (dP 36 0 y0).bind fun _ => (dctl w0).bind fun q0 => G_bbr_ctl_entries cp n q0 (fun r0 r1 => k ⟨(tB r0), [(ectl r1)]⟩)
  | _, _ => none
def ca_bbr_Check {R : Type} (cp : Nat → Nat → Bool) (n : Nat) (av : Fr) (cs : List Fr) (k : Ret2 RW → Option R) : Option R := match av, cs with
  | [y0], [] => (dA y0).bind fun c0_ => (dCc c0_).bind fun p0 => G_bbr_Check cp n p0 (fun r0 => k ⟨(tL r0), []⟩)
  | _, _ => none
def ca_bbr_ctl_round {R : Type} (cp : Nat → Nat → Bool) (n : Nat) (av : Fr) (cs : List Fr) (k : Ret2 RW → Option R) : Option R := match av, cs with
  | [y0, y1], [w0] => (dP 30 0 y0).bind fun _ => (dA y1).bind fun c1_ => (dSample c1_).bind fun p1 => (dctl w0).bind fun q0 => G_bbr_ctl_round cp n p1 q0 (fun r0 r1 => k ⟨(tB r0), [(ectl r1)]⟩)
  | _, _ => none
def ca_filter_Best {R : Type} (cp : Nat → Nat → Bool) (n : Nat) (av : Fr) (cs : List Fr) (k : Ret2 RW → Option R) : Option R := match av, cs with
  | [y0], [] => (dREntry false y0).bind fun p0 => G_filter_Best cp n p0 (fun r0 r1 => k ⟨.tup [(tL r0), (tB r1)], []⟩)
  | _, _ => none
def ca_bbr_ctl_bandwidth {R : Type} (cp : Nat → Nat → Bool) (n : Nat) (av : Fr) (cs : List Fr) (k : Ret2 RW → Option R) : Option R := match av, cs with
  | [y0], [w0] => (dP 15 0 y0).bind fun _ => (dctl w0).bind fun q0 => G_bbr_ctl_bandwidth cp n q0 (fun r0 r1 => k ⟨(tL r0), [(ectl r1)]⟩)
  | _, _ => none
def ca_filter_Put {R : Type} (cp : Nat → Nat → Bool) (n : Nat) (av : Fr) (cs : List Fr) (k : Ret2 RW → Option R) : Option R := match av, cs with
  | [y0, y1, y2, y3, y4], [] => (dREntry false y0).bind fun p0 => (dI .i64 y1).bind fun p1 => (dI .i64 y2).bind fun p2 => (dI .i64 y3).bind fun p3 => (dB y4).bind fun p4 => G_filter_Put cp n p0 p1 p2 p3 p4 (fun r0 r1 => k ⟨.tup [.row false (.rEntry r0), (tL r1)], []⟩)
  | _, _ => none
def ca_bbr_ctl_speed {R : Type} (cp : Nat → Nat → Bool) (n : Nat) (av : Fr) (cs : List Fr) (k : Ret2 RW → Option R) : Option R := match av, cs with
  | [y0, y1], [w0] => (dP 74 0 y0).bind fun _ => (dA y1).bind fun c1_ => (dSample c1_).bind fun p1 => (dctl w0).bind fun q0 => G_bbr_ctl_speed cp n p1 q0 (fun r0 => k ⟨.tup [], [(ectl r0)]⟩)
  | _, _ => none
def ca_bbr_ctl_shortest {R : Type} (cp : Nat → Nat → Bool) (n : Nat) (av : Fr) (cs : List Fr) (k : Ret2 RW → Option R) : Option R := match av, cs with
  | [y0, y1], [w0] => (dP 60 0 y0).bind fun _ => (dA y1).bind fun c1_ => (dSample c1_).bind fun p1 => (dctl w0).bind fun q0 => G_bbr_ctl_shortest cp n p1 q0 (fun r0 r1 => k ⟨(tB r0), [(ectl r1)]⟩)
  | _, _ => none
def ca_bbr_ctl_full {R : Type} (cp : Nat → Nat → Bool) (n : Nat) (av : Fr) (cs : List Fr) (k : Ret2 RW → Option R) : Option R := match av, cs with
  | [y0], [w0] => (dP 48 0 y0).bind fun _ => (dctl w0).bind fun q0 => G_bbr_ctl_full cp n q0 (fun r0 => k ⟨.tup [], [(ectl r0)]⟩)
  | _, _ => none
def ca_math_bits_Mul64 {R : Type} (cp : Nat → Nat → Bool) (n : Nat) (av : Fr) (cs : List Fr) (k : Ret2 RW → Option R) : Option R := match av, cs with
  | [y0, y1], [] => (dI .u64 y0).bind fun p0 => (dI .u64 y1).bind fun p1 => G_math_bits_Mul64 cp n p0 p1 (fun r0 r1 => k ⟨.tup [(tI .u64 r0), (tI .u64 r1)], []⟩)
  | _, _ => none
def ca_math_bits_Len64 {R : Type} (cp : Nat → Nat → Bool) (n : Nat) (av : Fr) (cs : List Fr) (k : Ret2 RW → Option R) : Option R := match av, cs with
  | [y0], [] => (dI .u64 y0).bind fun p0 => G_math_bits_Len64 cp n p0 (fun r0 => k ⟨(tL r0), []⟩)
  | _, _ => none
def ca_math_bits_LeadingZeros64 {R : Type} (cp : Nat → Nat → Bool) (n : Nat) (av : Fr) (cs : List Fr) (k : Ret2 RW → Option R) : Option R := match av, cs with
  | [y0], [] => (dI .u64 y0).bind fun p0 => G_math_bits_LeadingZeros64 cp n p0 (fun r0 => k ⟨(tL r0), []⟩)
  | _, _ => none
def ca_math_bits_Div64 {R : Type} (cp : Nat → Nat → Bool) (n : Nat) (av : Fr) (cs : List Fr) (k : Ret2 RW → Option R) : Option R := match av, cs with
  | [y0, y1, y2], [] => (dI .u64 y0).bind fun p0 => (dI .u64 y1).bind fun p1 => (dI .u64 y2).bind fun p2 => G_math_bits_Div64 cp n p0 p1 p2 (fun r0 r1 => k ⟨.tup [(tI .u64 r0), (tI .u64 r1)], []⟩)
  | _, _ => none
def ca_seq_MulDiv {R : Type} (cp : Nat → Nat → Bool) (n : Nat) (av : Fr) (cs : List Fr) (k : Ret2 RW → Option R) : Option R := match av, cs with
  | [y0, y1, y2], [] => (dI .i64 y0).bind fun p0 => (dI .i64 y1).bind fun p1 => (dI .i64 y2).bind fun p2 => G_seq_MulDiv cp n p0 p1 p2 (fun r0 r1 => k ⟨.tup [(tL r0), (tL r1)], []⟩)
  | _, _ => none
def ca_bbr_ctl_product {R : Type} (cp : Nat → Nat → Bool) (n : Nat) (av : Fr) (cs : List Fr) (k : Ret2 RW → Option R) : Option R := match av, cs with
  | [y0], [w0] => (dP 18 0 y0).bind fun _ => (dctl w0).bind fun q0 => G_bbr_ctl_product cp n q0 (fun r0 r1 => k ⟨(tL r0), [(ectl r1)]⟩)
  | _, _ => none
def ca_bbr_ctl_probe {R : Type} (cp : Nat → Nat → Bool) (n : Nat) (av : Fr) (cs : List Fr) (k : Ret2 RW → Option R) : Option R := match av, cs with
  | [y0, y1], [w0] => (dP 17 0 y0).bind fun _ => (dI .i64 y1).bind fun p1 => (dctl w0).bind fun q0 => G_bbr_ctl_probe cp n p1 q0 (fun r0 => k ⟨.tup [], [(ectl r0)]⟩)
  | _, _ => none
def ca_bbr_ctl_cycle {R : Type} (cp : Nat → Nat → Bool) (n : Nat) (av : Fr) (cs : List Fr) (k : Ret2 RW → Option R) : Option R := match av, cs with
  | [y0, y1], [w0] => (dP 62 0 y0).bind fun _ => (dA y1).bind fun c1_ => (dSample c1_).bind fun p1 => (dctl w0).bind fun q0 => G_bbr_ctl_cycle cp n p1 q0 (fun r0 => k ⟨.tup [], [(ectl r0)]⟩)
  | _, _ => none
def ca_bbr_ctl_ask {R : Type} (cp : Nat → Nat → Bool) (n : Nat) (av : Fr) (cs : List Fr) (k : Ret2 RW → Option R) : Option R := match av, cs with
  | [y0, y1, y2], [w0] => (dP 122 0 y0).bind fun _ => (dA y1).bind fun c1_ => (dSample c1_).bind fun p1 => (dB y2).bind fun p2 => (dctl w0).bind fun q0 => G_bbr_ctl_ask cp n p1 p2 q0 (fun r0 => k ⟨.tup [], [(ectl r0)]⟩)
  | _, _ => none
def ca_seq_Clamp {R : Type} (cp : Nat → Nat → Bool) (n : Nat) (av : Fr) (cs : List Fr) (k : Ret2 RW → Option R) : Option R := match av, cs with
  | [y0, y1, y2], [] => (dI .i64 y0).bind fun p0 => (dI .i64 y1).bind fun p1 => (dI .i64 y2).bind fun p2 => G_seq_Clamp cp n p0 p1 p2 (fun r0 => k ⟨(tL r0), []⟩)
  | _, _ => none
def ca_bbr_ctl_window {R : Type} (cp : Nat → Nat → Bool) (n : Nat) (av : Fr) (cs : List Fr) (k : Ret2 RW → Option R) : Option R := match av, cs with
  | [y0, y1], [w0] => (dP 73 0 y0).bind fun _ => (dA y1).bind fun c1_ => (dSample c1_).bind fun p1 => (dctl w0).bind fun q0 => G_bbr_ctl_window cp n p1 q0 (fun r0 => k ⟨.tup [], [(ectl r0)]⟩)
  | _, _ => none
def ca_bbr_Acked {R : Type} (cp : Nat → Nat → Bool) (n : Nat) (av : Fr) (cs : List Fr) (k : Ret2 RW → Option R) : Option R := match av, cs with
  | [y0, y1], [] => (dA y0).bind fun c0_ => (dCc c0_).bind fun p0 => (dA y1).bind fun c1_ => (dSample c1_).bind fun p1 => G_bbr_Acked cp n p0 p1 (fun r0 r1 => k ⟨.tup [.agg (eCc r0), (tL r1)], []⟩)
  | _, _ => none
def ca_bbr_Timeout {R : Type} (cp : Nat → Nat → Bool) (n : Nat) (av : Fr) (cs : List Fr) (k : Ret2 RW → Option R) : Option R := match av, cs with
  | [y0, y1], [] => (dA y0).bind fun c0_ => (dCc c0_).bind fun p0 => (dI .i64 y1).bind fun p1 => G_bbr_Timeout cp n p0 p1 (fun r0 r1 => k ⟨.tup [.agg (eCc r0), (tL r1)], []⟩)
  | _, _ => none
def ca_bbr_Bandwidth {R : Type} (cp : Nat → Nat → Bool) (n : Nat) (av : Fr) (cs : List Fr) (k : Ret2 RW → Option R) : Option R := match av, cs with
  | [y0], [] => (dA y0).bind fun c0_ => (dCc c0_).bind fun p0 => G_bbr_Bandwidth cp n p0 (fun r0 => k ⟨(tL r0), []⟩)
  | _, _ => none
def ca_bbr_Product {R : Type} (cp : Nat → Nat → Bool) (n : Nat) (av : Fr) (cs : List Fr) (k : Ret2 RW → Option R) : Option R := match av, cs with
  | [y0], [] => (dA y0).bind fun c0_ => (dCc c0_).bind fun p0 => G_bbr_Product cp n p0 (fun r0 => k ⟨(tL r0), []⟩)
  | _, _ => none
def ca_bbr_Gain {R : Type} (cp : Nat → Nat → Bool) (n : Nat) (av : Fr) (cs : List Fr) (k : Ret2 RW → Option R) : Option R := match av, cs with
  | [y0], [] => (dA y0).bind fun c0_ => (dCc c0_).bind fun p0 => G_bbr_Gain cp n p0 (fun r0 => k ⟨(tL r0), []⟩)
  | _, _ => none
def ca_law18_heads {R : Type} (cp : Nat → Nat → Bool) (n : Nat) (av : Fr) (cs : List Fr) (k : Ret2 RW → Option R) : Option R := match av, cs with
  | [], [] => G_law18_heads cp n (fun r0 => k ⟨(tB r0), []⟩)
  | _, _ => none
def ca_law18_BbrSteady {R : Type} (cp : Nat → Nat → Bool) (n : Nat) (av : Fr) (cs : List Fr) (k : Ret2 RW → Option R) : Option R := match av, cs with
  | [y0, y1, y2], [] => (dI .i64 y0).bind fun p0 => (dI .i64 y1).bind fun p1 => (dI .i64 y2).bind fun p2 => G_law18_BbrSteady cp n p0 p1 p2 (fun r0 => k ⟨(tB r0), []⟩)
  | _, _ => none
def callP {R : Type} (cp : Nat → Nat → Bool) (n : Nat) (id : Nat) (av : Fr) (cs : List Fr) (k : Ret2 RW → Option R) : Option R := match id with
  | 20 => ca_reno_New cp n av cs k
  | 9 => ca_bbr_New cp n av cs k
  | 17 => ca_bbr_within cp n av cs k
  | 44 => ca_filter_may cp n av cs k
  | 45 => ca_filter_beats cp n av cs k
  | 36 => ca_filter_Check cp n av cs k
  | 1007 => ca_bbr_ctl_entries cp n av cs k
  | 12 => ca_bbr_Check cp n av cs k
  | 1011 => ca_bbr_ctl_round cp n av cs k
  | 40 => ca_filter_Best cp n av cs k
  | 1013 => ca_bbr_ctl_bandwidth cp n av cs k
  | 37 => ca_filter_Put cp n av cs k
  | 1012 => ca_bbr_ctl_speed cp n av cs k
  | 1016 => ca_bbr_ctl_shortest cp n av cs k
  | 1017 => ca_bbr_ctl_full cp n av cs k
  | 46 => ca_math_bits_Mul64 cp n av cs k
  | 49 => ca_math_bits_Len64 cp n av cs k
  | 48 => ca_math_bits_LeadingZeros64 cp n av cs k
  | 47 => ca_math_bits_Div64 cp n av cs k
  | 41 => ca_seq_MulDiv cp n av cs k
  | 1019 => ca_bbr_ctl_product cp n av cs k
  | 1025 => ca_bbr_ctl_probe cp n av cs k
  | 1018 => ca_bbr_ctl_cycle cp n av cs k
  | 1026 => ca_bbr_ctl_ask cp n av cs k
  | 39 => ca_seq_Clamp cp n av cs k
  | 1027 => ca_bbr_ctl_window cp n av cs k
  | 14 => ca_bbr_Acked cp n av cs k
  | 7 => ca_bbr_Timeout cp n av cs k
  | 15 => ca_bbr_Bandwidth cp n av cs k
  | 16 => ca_bbr_Product cp n av cs k
  | 23 => ca_bbr_Gain cp n av cs k
  | 13 => ca_law18_heads cp n av cs k
  | 5 => ca_law18_BbrSteady cp n av cs k
  | _ => none
end
end Go.Proofs.Ytgadpgeghlhpnaa.M
