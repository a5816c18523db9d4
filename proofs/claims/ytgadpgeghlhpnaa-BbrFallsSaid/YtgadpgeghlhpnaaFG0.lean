/- The values of the program's functions, and the functions, plain. -/
import Derived.Test.YtgadpgeghlhpnaaMachX
set_option maxRecDepth 100000
set_option linter.unusedVariables false
namespace Go.Proofs.Ytgadpgeghlhpnaa.M
open Go
noncomputable section
def str_ : ByteArray := ⟨#[]⟩
def tab256_2793 : ByteArray := ⟨#[0, 1, 2, 2, 3, 3, 3, 3, 4, 4, 4, 4, 4, 4, 4, 4, 5, 5, 5, 5, 5, 5, 5, 5, 5, 5, 5, 5, 5, 5, 5, 5, 6, 6, 6, 6, 6, 6, 6, 6, 6, 6, 6, 6, 6, 6, 6, 6, 6, 6, 6, 6, 6, 6, 6, 6, 6, 6, 6, 6, 6, 6, 6, 6, 7, 7, 7, 7, 7, 7, 7, 7, 7, 7, 7, 7, 7, 7, 7, 7, 7, 7, 7, 7, 7, 7, 7, 7, 7, 7, 7, 7, 7, 7, 7, 7, 7, 7, 7, 7, 7, 7, 7, 7, 7, 7, 7, 7, 7, 7, 7, 7, 7, 7, 7, 7, 7, 7, 7, 7, 7, 7, 7, 7, 7, 7, 7, 7, 8, 8, 8, 8, 8, 8, 8, 8, 8, 8, 8, 8, 8, 8, 8, 8, 8, 8, 8, 8, 8, 8, 8, 8, 8, 8, 8, 8, 8, 8, 8, 8, 8, 8, 8, 8, 8, 8, 8, 8, 8, 8, 8, 8, 8, 8, 8, 8, 8, 8, 8, 8, 8, 8, 8, 8, 8, 8, 8, 8, 8, 8, 8, 8, 8, 8, 8, 8, 8, 8, 8, 8, 8, 8, 8, 8, 8, 8, 8, 8, 8, 8, 8, 8, 8, 8, 8, 8, 8, 8, 8, 8, 8, 8, 8, 8, 8, 8, 8, 8, 8, 8, 8, 8, 8, 8, 8, 8, 8, 8, 8, 8, 8, 8, 8, 8, 8, 8, 8, 8, 8, 8, 8, 8, 8, 8, 8, 8]⟩
structure SEntry where
  xAt : Int
  xV : Int
def zEntry : SEntry := ⟨0, 0⟩
structure SCc where
  xKind : Int
  xMss : Int
  xCwnd : Int
  xSsthresh : Int
  xAcc : Int
  xWmax : Int
  xEpoch : Int
  xK : Int
  xWest : Int
  xStart : Int
  xMode : Int
  xBw : (List SEntry)
  xMinRtt : Int
  xMinAt : Int
  xRound : Int
  xNextAt : Int
  xFull : Int
  xFullN : Int
  xPhase : Int
  xPhaseAt : Int
  xDoneAt : Int
  xPrior : Int
def zCc : SCc := ⟨0, 0, 0, 0, 0, 0, 0, 0, 0, 0, 0, [], 0, 0, 0, 0, 0, 0, 0, 0, 0, 0⟩
def zint : Int := 0
structure Sctl where
  xCc_Kind : Int
  xCc_Mss : Int
  xCc_Cwnd : Int
  xCc_Ssthresh : Int
  xCc_Acc : Int
  xCc_Wmax : Int
  xCc_Epoch : Int
  xCc_K : Int
  xCc_West : Int
  xCc_Start : Int
  xCc_Mode : Int
  xCc_Bw : (List SEntry)
  xCc_MinRtt : Int
  xCc_MinAt : Int
  xCc_Round : Int
  xCc_NextAt : Int
  xCc_Full : Int
  xCc_FullN : Int
  xCc_Phase : Int
  xCc_PhaseAt : Int
  xCc_DoneAt : Int
  xCc_Prior : Int
def zctl : Sctl := ⟨0, 0, 0, 0, 0, 0, 0, 0, 0, 0, 0, [], 0, 0, 0, 0, 0, 0, 0, 0, 0, 0⟩
structure SSample where
  xNow : Int
  xAcked : Int
  xRtt : Int
  xRate : Int
  xIdle : Bool
  xGiven : Int
  xBefore : Int
  xFlight : Int
def zSample : SSample := ⟨0, 0, 0, 0, false, 0, 0, 0⟩
inductive RW where
  | rEntry (xs : List SEntry)
  | rint (xs : List Int)

abbrev Fr := List (TV RW)
abbrev FF := FT RW
def tI (k : IntKind) (n : Int) : TV RW := .sc (.int k n)
def tL (n : Int) : TV RW := .sc (.int .i64 n)
def tB (b : Bool) : TV RW := .sc (.bool b)
def dT : Nat → Fr → Fr
  | 0, l => l
  | n + 1, l => .dead :: dT n l
def dc : Fr := dT 16 []
def eCc (x : SCc) : List (TV RW) := [(tL x.xKind), (tL x.xMss), (tL x.xCwnd), (tL x.xSsthresh), (tL x.xAcc), (tL x.xWmax), (tL x.xEpoch), (tL x.xK), (tL x.xWest), (tL x.xStart), (tL x.xMode), .row false (.rEntry x.xBw), (tL x.xMinRtt), (tL x.xMinAt), (tL x.xRound), (tL x.xNextAt), (tL x.xFull), (tL x.xFullN), (tL x.xPhase), (tL x.xPhaseAt), (tL x.xDoneAt), (tL x.xPrior)]
def eCct (x : SCc) : List (TV RW) := [(tL x.xKind), (tL x.xMss), (tL x.xCwnd), (tL x.xSsthresh), (tL x.xAcc), (tL x.xWmax), (tL x.xEpoch), (tL x.xK), (tL x.xWest), (tL x.xStart), (tL x.xMode), .row true (.rEntry x.xBw), (tL x.xMinRtt), (tL x.xMinAt), (tL x.xRound), (tL x.xNextAt), (tL x.xFull), (tL x.xFullN), (tL x.xPhase), (tL x.xPhaseAt), (tL x.xDoneAt), (tL x.xPrior)]
def eEntry (x : SEntry) : List (TV RW) := [(tL x.xAt), (tL x.xV)]
def ectl (x : Sctl) : List (TV RW) := [(tL x.xCc_Kind), (tL x.xCc_Mss), (tL x.xCc_Cwnd), (tL x.xCc_Ssthresh), (tL x.xCc_Acc), (tL x.xCc_Wmax), (tL x.xCc_Epoch), (tL x.xCc_K), (tL x.xCc_West), (tL x.xCc_Start), (tL x.xCc_Mode), .row false (.rEntry x.xCc_Bw), (tL x.xCc_MinRtt), (tL x.xCc_MinAt), (tL x.xCc_Round), (tL x.xCc_NextAt), (tL x.xCc_Full), (tL x.xCc_FullN), (tL x.xCc_Phase), (tL x.xCc_PhaseAt), (tL x.xCc_DoneAt), (tL x.xCc_Prior)]
def ectlt (x : Sctl) : List (TV RW) := [(tL x.xCc_Kind), (tL x.xCc_Mss), (tL x.xCc_Cwnd), (tL x.xCc_Ssthresh), (tL x.xCc_Acc), (tL x.xCc_Wmax), (tL x.xCc_Epoch), (tL x.xCc_K), (tL x.xCc_West), (tL x.xCc_Start), (tL x.xCc_Mode), .row true (.rEntry x.xCc_Bw), (tL x.xCc_MinRtt), (tL x.xCc_MinAt), (tL x.xCc_Round), (tL x.xCc_NextAt), (tL x.xCc_Full), (tL x.xCc_FullN), (tL x.xCc_Phase), (tL x.xCc_PhaseAt), (tL x.xCc_DoneAt), (tL x.xCc_Prior)]
def eSample (x : SSample) : List (TV RW) := [(tL x.xNow), (tL x.xAcked), (tL x.xRtt), (tL x.xRate), (tB x.xIdle), (tL x.xGiven), (tL x.xBefore), (tL x.xFlight)]
def eint (x : Int) : List (TV RW) := [(tL x)]
def cEntry (x : SEntry) : List AV := [.sc (.int .i64 x.xAt), .sc (.int .i64 x.xV)]
def cint (x : Int) : List AV := [.sc (.int .i64 x)]
def dOne : Fr → Option (TV RW)
  | [x] => some x
  | _ => none
def dI (kd : IntKind) : TV RW → Option Int
  | .sc (.int k a) => cond (decide (k = kd)) (some a) none
  | _ => none
def dB : TV RW → Option Bool
  | .sc (.bool b) => some b
  | _ => none
def dS : TV RW → Option ByteArray
  | .sc (.string b) => some b
  | _ => none
def dA : TV RW → Option Fr
  | .agg cs => some cs
  | _ => none
def dP (h j : Nat) : TV RW → Option Unit
  | .ptr a b => cond (Nat.beq a h && Nat.beq b j) (some ()) none
  | _ => none
def dC (f : Nat) (cs : List (Nat × Nat)) : TV RW → Option Unit
  | .clo a b => cond (Nat.beq a f && decide (b = cs)) (some ()) none
  | _ => none
def dREntry (fl : Bool) : TV RW → Option (List SEntry)
  | .row a (.rEntry xs) => cond (a == fl) (some xs) none
  | _ => none
def dRint (fl : Bool) : TV RW → Option (List Int)
  | .row a (.rint xs) => cond (a == fl) (some xs) none
  | _ => none
def dCc : Fr → Option SCc
  | [y0, y1, y2, y3, y4, y5, y6, y7, y8, y9, y10, y11, y12, y13, y14, y15, y16, y17, y18, y19, y20, y21] => (dI .i64 y0).bind fun a0 => (dI .i64 y1).bind fun a1 => (dI .i64 y2).bind fun a2 => (dI .i64 y3).bind fun a3 => (dI .i64 y4).bind fun a4 => (dI .i64 y5).bind fun a5 => (dI .i64 y6).bind fun a6 => (dI .i64 y7).bind fun a7 => (dI .i64 y8).bind fun a8 => (dI .i64 y9).bind fun a9 => (dI .i64 y10).bind fun a10 => (dREntry false y11).bind fun a11 => (dI .i64 y12).bind fun a12 => (dI .i64 y13).bind fun a13 => (dI .i64 y14).bind fun a14 => (dI .i64 y15).bind fun a15 => (dI .i64 y16).bind fun a16 => (dI .i64 y17).bind fun a17 => (dI .i64 y18).bind fun a18 => (dI .i64 y19).bind fun a19 => (dI .i64 y20).bind fun a20 => (dI .i64 y21).bind fun a21 => some ⟨a0, a1, a2, a3, a4, a5, a6, a7, a8, a9, a10, a11, a12, a13, a14, a15, a16, a17, a18, a19, a20, a21⟩
  | _ => none
def dCct : Fr → Option SCc
  | [y0, y1, y2, y3, y4, y5, y6, y7, y8, y9, y10, y11, y12, y13, y14, y15, y16, y17, y18, y19, y20, y21] => (dI .i64 y0).bind fun a0 => (dI .i64 y1).bind fun a1 => (dI .i64 y2).bind fun a2 => (dI .i64 y3).bind fun a3 => (dI .i64 y4).bind fun a4 => (dI .i64 y5).bind fun a5 => (dI .i64 y6).bind fun a6 => (dI .i64 y7).bind fun a7 => (dI .i64 y8).bind fun a8 => (dI .i64 y9).bind fun a9 => (dI .i64 y10).bind fun a10 => (dREntry true y11).bind fun a11 => (dI .i64 y12).bind fun a12 => (dI .i64 y13).bind fun a13 => (dI .i64 y14).bind fun a14 => (dI .i64 y15).bind fun a15 => (dI .i64 y16).bind fun a16 => (dI .i64 y17).bind fun a17 => (dI .i64 y18).bind fun a18 => (dI .i64 y19).bind fun a19 => (dI .i64 y20).bind fun a20 => (dI .i64 y21).bind fun a21 => some ⟨a0, a1, a2, a3, a4, a5, a6, a7, a8, a9, a10, a11, a12, a13, a14, a15, a16, a17, a18, a19, a20, a21⟩
  | _ => none
def dEntry : Fr → Option SEntry
  | [y0, y1] => (dI .i64 y0).bind fun a0 => (dI .i64 y1).bind fun a1 => some ⟨a0, a1⟩
  | _ => none
def dctl : Fr → Option Sctl
  | [y0, y1, y2, y3, y4, y5, y6, y7, y8, y9, y10, y11, y12, y13, y14, y15, y16, y17, y18, y19, y20, y21] => (dI .i64 y0).bind fun a0 => (dI .i64 y1).bind fun a1 => (dI .i64 y2).bind fun a2 => (dI .i64 y3).bind fun a3 => (dI .i64 y4).bind fun a4 => (dI .i64 y5).bind fun a5 => (dI .i64 y6).bind fun a6 => (dI .i64 y7).bind fun a7 => (dI .i64 y8).bind fun a8 => (dI .i64 y9).bind fun a9 => (dI .i64 y10).bind fun a10 => (dREntry false y11).bind fun a11 => (dI .i64 y12).bind fun a12 => (dI .i64 y13).bind fun a13 => (dI .i64 y14).bind fun a14 => (dI .i64 y15).bind fun a15 => (dI .i64 y16).bind fun a16 => (dI .i64 y17).bind fun a17 => (dI .i64 y18).bind fun a18 => (dI .i64 y19).bind fun a19 => (dI .i64 y20).bind fun a20 => (dI .i64 y21).bind fun a21 => some ⟨a0, a1, a2, a3, a4, a5, a6, a7, a8, a9, a10, a11, a12, a13, a14, a15, a16, a17, a18, a19, a20, a21⟩
  | _ => none
def dctlt : Fr → Option Sctl
  | [y0, y1, y2, y3, y4, y5, y6, y7, y8, y9, y10, y11, y12, y13, y14, y15, y16, y17, y18, y19, y20, y21] => (dI .i64 y0).bind fun a0 => (dI .i64 y1).bind fun a1 => (dI .i64 y2).bind fun a2 => (dI .i64 y3).bind fun a3 => (dI .i64 y4).bind fun a4 => (dI .i64 y5).bind fun a5 => (dI .i64 y6).bind fun a6 => (dI .i64 y7).bind fun a7 => (dI .i64 y8).bind fun a8 => (dI .i64 y9).bind fun a9 => (dI .i64 y10).bind fun a10 => (dREntry true y11).bind fun a11 => (dI .i64 y12).bind fun a12 => (dI .i64 y13).bind fun a13 => (dI .i64 y14).bind fun a14 => (dI .i64 y15).bind fun a15 => (dI .i64 y16).bind fun a16 => (dI .i64 y17).bind fun a17 => (dI .i64 y18).bind fun a18 => (dI .i64 y19).bind fun a19 => (dI .i64 y20).bind fun a20 => (dI .i64 y21).bind fun a21 => some ⟨a0, a1, a2, a3, a4, a5, a6, a7, a8, a9, a10, a11, a12, a13, a14, a15, a16, a17, a18, a19, a20, a21⟩
  | _ => none
def dSample : Fr → Option SSample
  | [y0, y1, y2, y3, y4, y5, y6, y7] => (dI .i64 y0).bind fun a0 => (dI .i64 y1).bind fun a1 => (dI .i64 y2).bind fun a2 => (dI .i64 y3).bind fun a3 => (dB y4).bind fun a4 => (dI .i64 y5).bind fun a5 => (dI .i64 y6).bind fun a6 => (dI .i64 y7).bind fun a7 => some ⟨a0, a1, a2, a3, a4, a5, a6, a7⟩
  | _ => none
def pEntry_ : Fr → Option (List SEntry)
  | [] => some []
  | y0 :: y1 :: r => (dI .i64 y0).bind fun a0 => (dI .i64 y1).bind fun a1 => (pEntry_ r).bind fun xs => some (⟨a0, a1⟩ :: xs)
  | _ => none

def pint_ : Fr → Option (List Int)
  | [] => some []
  | y0 :: r => (dI .i64 y0).bind fun a0 => (pint_ r).bind fun xs => some (a0 :: xs)

def U : Uni RW where
  sz := fun r => match r with
    | .rEntry xs => 2
    | .rint xs => 1
  len := fun r => match r with
    | .rEntry xs => xs.length
    | .rint xs => xs.length
  getA := fun r => match r with
    | .rEntry xs => rg cEntry zEntry xs
    | .rint xs => rg cint zint xs
  get := fun r i => match r with
    | .rEntry xs => eEntry (xs.getD i zEntry)
    | .rint xs => eint (xs.getD i zint)
  app := fun r q => match r with
    | .rEntry xs => (match q with
      | .rEntry ys => some (.rEntry (xs ++ ys))
      | _ => none)
    | .rint xs => (match q with
      | .rint ys => some (.rint (xs ++ ys))
      | _ => none)
  sub := fun lo n r => match r with
    | .rEntry xs => .rEntry (List.take n (xs.drop lo))
    | .rint xs => .rint (List.take n (xs.drop lo))
  szt := fun t => match t with
    | 49 => 2
    | 3 => 1
    | _ => 0
  zt := fun t => match t with
    | 49 => eEntry zEntry
    | 3 => eint zint
    | _ => []
  lit := fun t n L => match t with
    | 49 => (pEntry_ L).bind fun xs => cond (Nat.beq xs.length n) (some (.rEntry xs)) none
    | 3 => (pint_ L).bind fun xs => cond (Nat.beq xs.length n) (some (.rint xs)) none
    | _ => none
/-! tideway/bbr.within -/
def s_bbr_within_1 {R : Type} (cp : Nat → Nat → Bool) (n : Nat) (p0 : Int) (p1 : (List Int)) (kn : Option R) : Option R :=
  kn
def s_bbr_within_3 {R : Type} (cp : Nat → Nat → Bool) (n : Nat) (p0 : Int) (p1 : (List Int)) (kn : Int → Option R) : Option R :=
  kn (p1.length : Int)
def s_bbr_within_5 {R : Type} (cp : Nat → Nat → Bool) (n : Nat) (p0 : Int) (p1 : (List Int)) (v1 v2 : Int) (kn : Int → Option R) (kr : Option R) (ke0 : Option R) : Option R :=
  cond (decide (v2 < v1)) (cond (decide (0 ≤ v2)) (cond (decide (v2 < (p1.length : Int))) (cond (decide ((p1.getD (Int.toNat v2) zint) < 0)) (kr) (cond (decide (p0 < (p1.getD (Int.toNat v2) zint))) (kr) (kn (wr .i64 (v2 + 1))))) (none)) (none)) (ke0)
def l_bbr_within_10 {R : Type} (cp : Nat → Nat → Bool) (n : Nat) : Nat → Int → (List Int) → Int → Int → (Option R) → (Option R) → Option R
  | 0, _, _, _, _, _, _ => none
  | m + 1, p0, p1, v1, v2, kr, ke0 =>
    s_bbr_within_5 cp n p0 p1 v1 v2 (fun v3 => l_bbr_within_10 cp n m p0 p1 v1 v3 kr ke0) kr ke0
def s_bbr_within_11 {R : Type} (cp : Nat → Nat → Bool) (n : Nat) (p0 : Int) (p1 : (List Int)) (v1 : Int) (kr : Option R) (ke0 : Option R) : Option R :=
  l_bbr_within_10 cp n n p0 p1 v1 0 kr ke0
def s_bbr_within_12 {R : Type} (cp : Nat → Nat → Bool) (n : Nat) (p0 : Int) (p1 : (List Int)) (v1 : Int) (kn : Option R) (kr : Option R) : Option R :=
  s_bbr_within_11 cp n p0 p1 v1 kr kn
def s_bbr_within_13 {R : Type} (cp : Nat → Nat → Bool) (n : Nat) (p0 : Int) (p1 : (List Int)) (kn : Option R) (kr : Option R) : Option R :=
  s_bbr_within_3 cp n p0 p1 (fun v1 => s_bbr_within_12 cp n p0 p1 v1 kn kr)
def s_bbr_within_14 {R : Type} (cp : Nat → Nat → Bool) (n : Nat) (kr : Option R) : Option R :=
  kr
def s_bbr_within_17 {R : Type} (cp : Nat → Nat → Bool) (n : Nat) (p0 : Int) (p1 : (List Int)) (kr : Bool → Option R) : Option R :=
  s_bbr_within_13 cp n p0 p1 (s_bbr_within_14 cp n (kr true)) (kr false)
def s_bbr_within_19 {R : Type} (cp : Nat → Nat → Bool) (n : Nat) (p0 : Int) (p1 : (List Int)) (kr : Bool → Option R) : Option R :=
  s_bbr_within_1 cp n p0 p1 (s_bbr_within_17 cp n p0 p1 (fun v4 => (kr v4)))
def G_bbr_within {R : Type} (cp : Nat → Nat → Bool) : Nat → Int → (List Int) → (Bool → Option R) → Option R
  | 0, _, _, _ => none
  | n + 1, p0, p1, k =>
    s_bbr_within_19 cp n p0 p1 (fun v5 => k v5)
/-! tideway/filter.may -/
def G_filter_may {R : Type} (cp : Nat → Nat → Bool) : Nat → SEntry → (Bool → Option R) → Option R
  | 0, _, _ => none
  | n + 1, p0, k =>
    cond (decide (0 ≤ p0.xAt)) (cond (decide (p0.xAt ≤ 1125899906842624)) (cond (decide (0 ≤ p0.xV)) (k (decide (p0.xV ≤ 1152921504606846976))) (k false)) (k false)) (k false)
/-! tideway/filter.beats -/
def G_filter_beats {R : Type} (cp : Nat → Nat → Bool) : Nat → Int → Int → Bool → (Bool → Option R) → Option R
  | 0, _, _, _, _ => none
  | n + 1, p0, p1, p2, k =>
    cond (p2) (cond (decide (p1 ≤ p0)) (k true) (cond (!p2) (k (decide (p0 ≤ p1))) (k false))) (cond (!p2) (k (decide (p0 ≤ p1))) (k false))
/-! tideway/filter.Check -/
def s_filter_Check_1 {R : Type} (cp : Nat → Nat → Bool) (n : Nat) (p0 : (List SEntry)) (p1 : Bool) (kn : Option R) : Option R :=
  kn
def s_filter_Check_3 {R : Type} (cp : Nat → Nat → Bool) (n : Nat) (p0 : (List SEntry)) (p1 : Bool) (kn : Int → Option R) : Option R :=
  kn (p0.length : Int)
def s_filter_Check_5 {R : Type} (cp : Nat → Nat → Bool) (n : Nat) (p0 : (List SEntry)) (p1 : Bool) (v9 v10 : Int) (kn : Int → Option R) (kr : Option R) (ke0 : Option R) : Option R :=
  cond (decide (v10 < v9)) (cond (decide (0 ≤ v10)) (cond (decide (v10 < (p0.length : Int))) (G_filter_may cp n (p0.getD (Int.toNat v10) zEntry) (fun r11 => cond (!r11) (kr) (cond (decide (0 < v10)) (cond (decide (0 ≤ wr .i64 (v10 - 1))) (cond (decide (wr .i64 (v10 - 1) < (p0.length : Int))) (cond (decide (((p0.getD (Int.toNat v10) zEntry).xAt) ≤ ((p0.getD (Int.toNat (wr .i64 (v10 - 1))) zEntry).xAt))) (kr) (cond (decide (0 ≤ wr .i64 (v10 - 1))) (cond (decide (wr .i64 (v10 - 1) < (p0.length : Int))) (G_filter_beats cp n ((p0.getD (Int.toNat v10) zEntry).xV) ((p0.getD (Int.toNat (wr .i64 (v10 - 1))) zEntry).xV) p1 (fun r12 => cond (r12) (kr) (kn (wr .i64 (v10 + 1))))) (none)) (none))) (none)) (none)) (kn (wr .i64 (v10 + 1)))))) (none)) (none)) (ke0)
def l_filter_Check_10 {R : Type} (cp : Nat → Nat → Bool) (n : Nat) : Nat → (List SEntry) → Bool → Int → Int → (Option R) → (Option R) → Option R
  | 0, _, _, _, _, _, _ => none
  | m + 1, p0, p1, v9, v10, kr, ke0 =>
    s_filter_Check_5 cp n p0 p1 v9 v10 (fun v13 => l_filter_Check_10 cp n m p0 p1 v9 v13 kr ke0) kr ke0
def s_filter_Check_11 {R : Type} (cp : Nat → Nat → Bool) (n : Nat) (p0 : (List SEntry)) (p1 : Bool) (v9 : Int) (kr : Option R) (ke0 : Option R) : Option R :=
  l_filter_Check_10 cp n n p0 p1 v9 0 kr ke0
def s_filter_Check_12 {R : Type} (cp : Nat → Nat → Bool) (n : Nat) (p0 : (List SEntry)) (p1 : Bool) (v9 : Int) (kn : Option R) (kr : Option R) : Option R :=
  s_filter_Check_11 cp n p0 p1 v9 kr kn
def s_filter_Check_13 {R : Type} (cp : Nat → Nat → Bool) (n : Nat) (p0 : (List SEntry)) (p1 : Bool) (kn : Option R) (kr : Option R) : Option R :=
  s_filter_Check_3 cp n p0 p1 (fun v9 => s_filter_Check_12 cp n p0 p1 v9 kn kr)
def s_filter_Check_14 {R : Type} (cp : Nat → Nat → Bool) (n : Nat) (kr : Option R) : Option R :=
  kr
def s_filter_Check_17 {R : Type} (cp : Nat → Nat → Bool) (n : Nat) (p0 : (List SEntry)) (p1 : Bool) (kr : Int → Option R) : Option R :=
  s_filter_Check_13 cp n p0 p1 (s_filter_Check_14 cp n (kr 0)) (kr 2)
def s_filter_Check_19 {R : Type} (cp : Nat → Nat → Bool) (n : Nat) (p0 : (List SEntry)) (p1 : Bool) (kr : Int → Option R) : Option R :=
  s_filter_Check_1 cp n p0 p1 (s_filter_Check_17 cp n p0 p1 (fun v14 => (kr v14)))
def G_filter_Check {R : Type} (cp : Nat → Nat → Bool) : Nat → (List SEntry) → Bool → (Int → Option R) → Option R
  | 0, _, _, _ => none
  | n + 1, p0, p1, k =>
    s_filter_Check_19 cp n p0 p1 (fun v15 => k v15)
/-! (*tideway/bbr.ctl).entries -/
def s_bbr_ctl_entries_1 {R : Type} (cp : Nat → Nat → Bool) (n : Nat) (q0 : Sctl) (kn : Option R) (kr : Option R) : Option R :=
  G_filter_Check cp n q0.xCc_Bw true (fun r16 => cond (!decide (r16 = 0)) (kr) (kn))
def s_bbr_ctl_entries_4 {R : Type} (cp : Nat → Nat → Bool) (n : Nat) (q0 : Sctl) (kn : Int → Option R) : Option R :=
  kn (q0.xCc_Bw.length : Int)
def s_bbr_ctl_entries_6 {R : Type} (cp : Nat → Nat → Bool) (n : Nat) (q0 : Sctl) (v17 v18 : Int) (kn : Int → Option R) (kr : Option R) (ke0 : Option R) : Option R :=
  cond (decide (v18 < v17)) (cond (decide (0 ≤ v18)) (cond (decide (v18 < (q0.xCc_Bw.length : Int))) (cond (decide (1099511627776 < ((q0.xCc_Bw.getD (Int.toNat v18) zEntry).xV))) (kr) (cond (decide (q0.xCc_Round < ((q0.xCc_Bw.getD (Int.toNat v18) zEntry).xAt))) (kr) (kn (wr .i64 (v18 + 1))))) (none)) (none)) (ke0)
def l_bbr_ctl_entries_10 {R : Type} (cp : Nat → Nat → Bool) (n : Nat) : Nat → Sctl → Int → Int → (Option R) → (Option R) → Option R
  | 0, _, _, _, _, _ => none
  | m + 1, q0, v17, v18, kr, ke0 =>
    s_bbr_ctl_entries_6 cp n q0 v17 v18 (fun v19 => l_bbr_ctl_entries_10 cp n m q0 v17 v19 kr ke0) kr ke0
def s_bbr_ctl_entries_11 {R : Type} (cp : Nat → Nat → Bool) (n : Nat) (q0 : Sctl) (v17 : Int) (kr : Option R) (ke0 : Option R) : Option R :=
  l_bbr_ctl_entries_10 cp n n q0 v17 0 kr ke0
def s_bbr_ctl_entries_12 {R : Type} (cp : Nat → Nat → Bool) (n : Nat) (q0 : Sctl) (v17 : Int) (kn : Option R) (kr : Option R) : Option R :=
  s_bbr_ctl_entries_11 cp n q0 v17 kr kn
def s_bbr_ctl_entries_13 {R : Type} (cp : Nat → Nat → Bool) (n : Nat) (q0 : Sctl) (kn : Option R) (kr : Option R) : Option R :=
  s_bbr_ctl_entries_4 cp n q0 (fun v17 => s_bbr_ctl_entries_12 cp n q0 v17 kn kr)
def s_bbr_ctl_entries_14 {R : Type} (cp : Nat → Nat → Bool) (n : Nat) (q0 : Sctl) (kr : Option R) : Option R :=
  kr
def s_bbr_ctl_entries_17 {R : Type} (cp : Nat → Nat → Bool) (n : Nat) (q0 : Sctl) (kr : Bool → Option R) : Option R :=
  s_bbr_ctl_entries_13 cp n q0 (s_bbr_ctl_entries_14 cp n q0 (kr true)) (kr false)
def s_bbr_ctl_entries_19 {R : Type} (cp : Nat → Nat → Bool) (n : Nat) (q0 : Sctl) (kr : Bool → Option R) : Option R :=
  s_bbr_ctl_entries_1 cp n q0 (s_bbr_ctl_entries_17 cp n q0 (fun v20 => (kr v20))) (kr false)
def G_bbr_ctl_entries {R : Type} (cp : Nat → Nat → Bool) : Nat → Sctl → (Bool → Sctl → Option R) → Option R
  | 0, _, _ => none
  | n + 1, q0, k =>
    s_bbr_ctl_entries_19 cp n q0 (fun v21 => k v21 q0)
/-! tideway/bbr.Check -/
def s_bbr_Check_1 {R : Type} (cp : Nat → Nat → Bool) (n : Nat) (p0 : SCc) (kn : Option R) : Option R :=
  kn
def s_bbr_Check_3 {R : Type} (cp : Nat → Nat → Bool) (n : Nat) (p0 : SCc) (kn : Bool → Option R) : Option R :=
  cond (decide (p0.xKind = 3)) (cond (decide (1 ≤ p0.xMss)) (cond (decide (p0.xMss ≤ 65000)) (cond (decide (p0.xMss ≤ p0.xCwnd)) (cond (decide (p0.xCwnd ≤ 1073741824)) (cond (decide (p0.xSsthresh = 1073741824)) (kn (decide (p0.xAcc = 0))) (kn false)) (kn false)) (kn false)) (kn false)) (kn false)) (kn false)
def s_bbr_Check_5 {R : Type} (cp : Nat → Nat → Bool) (n : Nat) (p0 : SCc) (v1 : Bool) (kn : Bool → Option R) : Option R :=
  cond (decide (p0.xWmax = 0)) (cond (decide (p0.xEpoch = 0)) (cond (decide (p0.xK = 0)) (cond (decide (p0.xWest = 0)) (kn (decide (p0.xStart = 0))) (kn false)) (kn false)) (kn false)) (kn false)
def s_bbr_Check_7 {R : Type} (cp : Nat → Nat → Bool) (n : Nat) (p0 : SCc) (v1 v2 : Bool) (kn : Bool → Option R) : Option R :=
  G_bbr_within cp n 1125899906842624 [p0.xMinRtt, p0.xMinAt, p0.xNextAt, p0.xPhaseAt, p0.xDoneAt, p0.xRound] (fun r3 => kn r3)
def s_bbr_Check_9 {R : Type} (cp : Nat → Nat → Bool) (n : Nat) (p0 : SCc) (v1 v2 v4 : Bool) (kn : Bool → Option R) : Option R :=
  G_bbr_within cp n 1099511627776 [p0.xFull] (fun r5 => cond (r5) (G_bbr_within cp n 3 [p0.xFullN] (fun r6 => cond (r6) (G_bbr_within cp n 7 [p0.xPhase] (fun r7 => cond (r7) (G_bbr_within cp n 1073741824 [p0.xPrior] (fun r8 => kn r8)) (kn false))) (kn false))) (kn false))
def s_bbr_Check_11 {R : Type} (cp : Nat → Nat → Bool) (n : Nat) (p0 : SCc) (v1 v2 v4 v9 : Bool) (kr : Int → Option R) : Option R :=
  cond (!v1) (kr 230) (cond (!v2) (kr 230) (cond (!v4) (kr 230) (cond (!v9) (kr 230) (cond (decide (p0.xMode < 1)) (kr 230) (cond (decide (4 < p0.xMode)) (kr 230) (G_bbr_ctl_entries cp n (Sctl.mk p0.xKind p0.xMss p0.xCwnd p0.xSsthresh p0.xAcc p0.xWmax p0.xEpoch p0.xK p0.xWest p0.xStart p0.xMode p0.xBw p0.xMinRtt p0.xMinAt p0.xRound p0.xNextAt p0.xFull p0.xFullN p0.xPhase p0.xPhaseAt p0.xDoneAt p0.xPrior) (fun r10 r11 => cond (!r10) (kr 230) (kr 0))))))))
def s_bbr_Check_14 {R : Type} (cp : Nat → Nat → Bool) (n : Nat) (p0 : SCc) (v1 v2 v4 : Bool) (kr : Int → Option R) : Option R :=
  s_bbr_Check_9 cp n p0 v1 v2 v4 (fun v9 => s_bbr_Check_11 cp n p0 v1 v2 v4 v9 (fun v12 => (kr v12)))
def s_bbr_Check_16 {R : Type} (cp : Nat → Nat → Bool) (n : Nat) (p0 : SCc) (v1 v2 : Bool) (kr : Int → Option R) : Option R :=
  s_bbr_Check_7 cp n p0 v1 v2 (fun v4 => s_bbr_Check_14 cp n p0 v1 v2 v4 (fun v13 => (kr v13)))
def s_bbr_Check_18 {R : Type} (cp : Nat → Nat → Bool) (n : Nat) (p0 : SCc) (v1 : Bool) (kr : Int → Option R) : Option R :=
  s_bbr_Check_5 cp n p0 v1 (fun v2 => s_bbr_Check_16 cp n p0 v1 v2 (fun v14 => (kr v14)))
def s_bbr_Check_20 {R : Type} (cp : Nat → Nat → Bool) (n : Nat) (p0 : SCc) (kr : Int → Option R) : Option R :=
  s_bbr_Check_3 cp n p0 (fun v1 => s_bbr_Check_18 cp n p0 v1 (fun v15 => (kr v15)))
def s_bbr_Check_22 {R : Type} (cp : Nat → Nat → Bool) (n : Nat) (p0 : SCc) (kr : Int → Option R) : Option R :=
  s_bbr_Check_1 cp n p0 (s_bbr_Check_20 cp n p0 (fun v16 => (kr v16)))
def G_bbr_Check {R : Type} (cp : Nat → Nat → Bool) : Nat → SCc → (Int → Option R) → Option R
  | 0, _, _ => none
  | n + 1, p0, k =>
    s_bbr_Check_22 cp n p0 (fun v17 => k v17)
/-! tideway/bbr.Timeout -/
def G_bbr_Timeout {R : Type} (cp : Nat → Nat → Bool) : Nat → SCc → Int → (SCc → Int → Option R) → Option R
  | 0, _, _, _ => none
  | n + 1, p0, p1, k =>
    G_bbr_Check cp n p0 (fun r18 => cond (!decide (r18 = 0)) (k (SCc.mk 0 0 0 0 0 0 0 0 0 0 0 [] 0 0 0 0 0 0 0 0 0 0) 230) (G_bbr_within cp n 1073741824 [p1] (fun r19 => cond (!r19) (k (SCc.mk 0 0 0 0 0 0 0 0 0 0 0 [] 0 0 0 0 0 0 0 0 0 0) 2) (k (SCc.mk p0.xKind p0.xMss p0.xMss p0.xSsthresh p0.xAcc p0.xWmax p0.xEpoch p0.xK p0.xWest p0.xStart p0.xMode p0.xBw p0.xMinRtt p0.xMinAt p0.xRound p0.xNextAt p0.xFull p0.xFullN p0.xPhase p0.xPhaseAt p0.xDoneAt p0.xCwnd) 0))))
/-! tideway/tidewayref15.Plain -/
def s_ref15_Plain_1 {R : Type} (cp : Nat → Nat → Bool) (n : Nat) (p0 : SCc) (p1 p2 : Bool) (kn : Option R) (kr : Option R) : Option R :=
  cond (!p1) (cond (!decide (p0.xWmax = 0)) (kr) (cond (!decide (p0.xEpoch = 0)) (kr) (cond (!decide (p0.xK = 0)) (kr) (cond (!decide (p0.xWest = 0)) (kr) (cond (!decide (p0.xStart = 0)) (kr) (kn)))))) (kn)
def s_ref15_Plain_4 {R : Type} (cp : Nat → Nat → Bool) (n : Nat) (p0 : SCc) (p2 : Bool) (kr : Bool → Option R) : Option R :=
  cond (!p2) (cond (!decide (p0.xMode = 0)) (kr false) (cond (decide (0 < (p0.xBw.length : Int))) (kr false) (cond (!decide (p0.xMinRtt = 0)) (kr false) (cond (!decide (p0.xMinAt = 0)) (kr false) (cond (!decide (p0.xRound = 0)) (kr false) (cond (!decide (p0.xNextAt = 0)) (kr false) (cond (!decide (p0.xFull = 0)) (kr false) (cond (!decide (p0.xFullN = 0)) (kr false) (cond (!decide (p0.xPhase = 0)) (kr false) (cond (!decide (p0.xPhaseAt = 0)) (kr false) (cond (!decide (p0.xDoneAt = 0)) (kr false) (cond (!decide (p0.xPrior = 0)) (kr false) (kr true))))))))))))) (kr true)
def s_ref15_Plain_7 {R : Type} (cp : Nat → Nat → Bool) (n : Nat) (p0 : SCc) (p1 p2 : Bool) (kr : Bool → Option R) : Option R :=
  s_ref15_Plain_1 cp n p0 p1 p2 (s_ref15_Plain_4 cp n p0 p2 (fun v22 => (kr v22))) (kr false)
def G_ref15_Plain {R : Type} (cp : Nat → Nat → Bool) : Nat → SCc → Bool → Bool → (Bool → Option R) → Option R
  | 0, _, _, _, _ => none
  | n + 1, p0, p1, p2, k =>
    s_ref15_Plain_7 cp n p0 p1 p2 (fun v23 => k v23)
/-! tideway/tidewayref12.time -/
def G_ref12_time {R : Type} (cp : Nat → Nat → Bool) : Nat → Int → (Bool → Option R) → Option R
  | 0, _, _ => none
  | n + 1, p0, k =>
    cond (decide (0 ≤ p0)) (k (decide (p0 ≤ 1125899906842624))) (k false)
/-! tideway/tidewayref12.value -/
def G_ref12_value {R : Type} (cp : Nat → Nat → Bool) : Nat → Int → (Bool → Option R) → Option R
  | 0, _, _ => none
  | n + 1, p0, k =>
    cond (decide (0 ≤ p0)) (k (decide (p0 ≤ 1152921504606846976))) (k false)
/-! tideway/tidewayref12.Check -/
def s_ref12_Check_1 {R : Type} (cp : Nat → Nat → Bool) (n : Nat) (p0 : (List SEntry)) (p1 : Bool) (kn : Option R) : Option R :=
  kn
def s_ref12_Check_3 {R : Type} (cp : Nat → Nat → Bool) (n : Nat) (p0 : (List SEntry)) (p1 : Bool) (kn : Option R) : Option R :=
  kn
def s_ref12_Check_5 {R : Type} (cp : Nat → Nat → Bool) (n : Nat) (p0 : (List SEntry)) (p1 : Bool) (v26 : Int) (kn : Option R) (ke0 : Option R) : Option R :=
  cond (decide (v26 < (p0.length : Int))) (kn) (ke0)
def s_ref12_Check_8 {R : Type} (cp : Nat → Nat → Bool) (n : Nat) (p0 : (List SEntry)) (p1 : Bool) (v26 : Int) (kn : Option R) (kr : Option R) : Option R :=
  cond (decide (0 ≤ v26)) (cond (decide (v26 < (p0.length : Int))) (G_ref12_time cp n ((p0.getD (Int.toNat v26) zEntry).xAt) (fun r27 => cond (!r27) (kr) (cond (decide (0 ≤ v26)) (cond (decide (v26 < (p0.length : Int))) (G_ref12_value cp n ((p0.getD (Int.toNat v26) zEntry).xV) (fun r28 => cond (!r28) (kr) (cond (decide (0 < v26)) (cond (decide (0 ≤ v26)) (cond (decide (v26 < (p0.length : Int))) (cond (decide (0 ≤ wr .i64 (v26 - 1))) (cond (decide (wr .i64 (v26 - 1) < (p0.length : Int))) (cond (decide (((p0.getD (Int.toNat v26) zEntry).xAt) ≤ ((p0.getD (Int.toNat (wr .i64 (v26 - 1))) zEntry).xAt))) (kr) (kn)) (none)) (none)) (none)) (none)) (kn)))) (none)) (none)))) (none)) (none)
def s_ref12_Check_10 {R : Type} (cp : Nat → Nat → Bool) (n : Nat) (p0 : (List SEntry)) (p1 : Bool) (v26 : Int) (kn : Option R) (kr : Option R) : Option R :=
  cond (decide (0 < v26)) (cond (p1) (cond (decide (0 ≤ v26)) (cond (decide (v26 < (p0.length : Int))) (cond (decide (0 ≤ wr .i64 (v26 - 1))) (cond (decide (wr .i64 (v26 - 1) < (p0.length : Int))) (cond (decide (((p0.getD (Int.toNat (wr .i64 (v26 - 1))) zEntry).xV) ≤ ((p0.getD (Int.toNat v26) zEntry).xV))) (kr) (cond (!p1) (cond (decide (0 ≤ v26)) (cond (decide (v26 < (p0.length : Int))) (cond (decide (0 ≤ wr .i64 (v26 - 1))) (cond (decide (wr .i64 (v26 - 1) < (p0.length : Int))) (cond (decide (((p0.getD (Int.toNat v26) zEntry).xV) ≤ ((p0.getD (Int.toNat (wr .i64 (v26 - 1))) zEntry).xV))) (kr) (kn)) (none)) (none)) (none)) (none)) (kn))) (none)) (none)) (none)) (none)) (cond (!p1) (cond (decide (0 ≤ v26)) (cond (decide (v26 < (p0.length : Int))) (cond (decide (0 ≤ wr .i64 (v26 - 1))) (cond (decide (wr .i64 (v26 - 1) < (p0.length : Int))) (cond (decide (((p0.getD (Int.toNat v26) zEntry).xV) ≤ ((p0.getD (Int.toNat (wr .i64 (v26 - 1))) zEntry).xV))) (kr) (kn)) (none)) (none)) (none)) (none)) (kn))) (kn)
def s_ref12_Check_11 {R : Type} (cp : Nat → Nat → Bool) (n : Nat) (p0 : (List SEntry)) (p1 : Bool) (v26 : Int) (kn : Option R) (kr : Option R) : Option R :=
  s_ref12_Check_8 cp n p0 p1 v26 (s_ref12_Check_10 cp n p0 p1 v26 kn kr) kr
def s_ref12_Check_12 {R : Type} (cp : Nat → Nat → Bool) (n : Nat) (p0 : (List SEntry)) (p1 : Bool) (v26 : Int) (kn : Option R) (kr : Option R) : Option R :=
  s_ref12_Check_11 cp n p0 p1 v26 kn kr
def s_ref12_Check_13 {R : Type} (cp : Nat → Nat → Bool) (n : Nat) (p0 : (List SEntry)) (p1 : Bool) (v26 : Int) (kn : Int → Option R) : Option R :=
  kn (wr .i64 (v26 + 1))
def s_ref12_Check_16 {R : Type} (cp : Nat → Nat → Bool) (n : Nat) (p0 : (List SEntry)) (p1 : Bool) (v26 : Int) (kn : Int → Option R) (kr : Option R) : Option R :=
  s_ref12_Check_12 cp n p0 p1 v26 (s_ref12_Check_13 cp n p0 p1 v26 (fun v29 => (kn v29))) kr
def s_ref12_Check_18 {R : Type} (cp : Nat → Nat → Bool) (n : Nat) (p0 : (List SEntry)) (p1 : Bool) (v26 : Int) (kn : Int → Option R) (kr : Option R) (ke0 : Option R) : Option R :=
  s_ref12_Check_5 cp n p0 p1 v26 (s_ref12_Check_16 cp n p0 p1 v26 (fun v30 => (kn v30)) kr) ke0
def l_ref12_Check_19 {R : Type} (cp : Nat → Nat → Bool) (n : Nat) : Nat → (List SEntry) → Bool → Int → (Option R) → (Option R) → Option R
  | 0, _, _, _, _, _ => none
  | m + 1, p0, p1, v26, kr, ke0 =>
    s_ref12_Check_18 cp n p0 p1 v26 (fun v31 => l_ref12_Check_19 cp n m p0 p1 v31 kr ke0) kr ke0
def s_ref12_Check_20 {R : Type} (cp : Nat → Nat → Bool) (n : Nat) (p0 : (List SEntry)) (p1 : Bool) (kr : Option R) (ke0 : Option R) : Option R :=
  l_ref12_Check_19 cp n n p0 p1 0 kr ke0
def s_ref12_Check_21 {R : Type} (cp : Nat → Nat → Bool) (n : Nat) (p0 : (List SEntry)) (p1 : Bool) (kn : Option R) (kr : Option R) : Option R :=
  s_ref12_Check_20 cp n p0 p1 kr kn
def s_ref12_Check_22 {R : Type} (cp : Nat → Nat → Bool) (n : Nat) (p0 : (List SEntry)) (p1 : Bool) (kn : Option R) (kr : Option R) : Option R :=
  s_ref12_Check_3 cp n p0 p1 (s_ref12_Check_21 cp n p0 p1 kn kr)
def s_ref12_Check_23 {R : Type} (cp : Nat → Nat → Bool) (n : Nat) (kr : Option R) : Option R :=
  kr
def s_ref12_Check_26 {R : Type} (cp : Nat → Nat → Bool) (n : Nat) (p0 : (List SEntry)) (p1 : Bool) (kr : Int → Option R) : Option R :=
  s_ref12_Check_22 cp n p0 p1 (s_ref12_Check_23 cp n (kr 0)) (kr 2)
def s_ref12_Check_28 {R : Type} (cp : Nat → Nat → Bool) (n : Nat) (p0 : (List SEntry)) (p1 : Bool) (kr : Int → Option R) : Option R :=
  s_ref12_Check_1 cp n p0 p1 (s_ref12_Check_26 cp n p0 p1 (fun v32 => (kr v32)))
def G_ref12_Check {R : Type} (cp : Nat → Nat → Bool) : Nat → (List SEntry) → Bool → (Int → Option R) → Option R
  | 0, _, _, _ => none
  | n + 1, p0, p1, k =>
    s_ref12_Check_28 cp n p0 p1 (fun v33 => k v33)
/-! tideway/tidewayref18.time -/
def G_ref18_time {R : Type} (cp : Nat → Nat → Bool) : Nat → Int → (Bool → Option R) → Option R
  | 0, _, _ => none
  | n + 1, p0, k =>
    cond (decide (0 ≤ p0)) (k (decide (p0 ≤ 1125899906842624))) (k false)
/-! tideway/tidewayref15.Size -/
def G_ref15_Size {R : Type} (cp : Nat → Nat → Bool) : Nat → Int → (Bool → Option R) → Option R
  | 0, _, _ => none
  | n + 1, p0, k =>
    cond (decide (0 ≤ p0)) (k (decide (p0 ≤ 1073741824))) (k false)
/-! tideway/tidewayref18.Check -/
def s_ref18_Check_1 {R : Type} (cp : Nat → Nat → Bool) (n : Nat) (p0 : SCc) (kn : Option R) (kr : Option R) : Option R :=
  cond (!decide (p0.xKind = 3)) (kr) (cond (decide (p0.xMss < 1)) (kr) (cond (decide (65000 < p0.xMss)) (kr) (cond (decide (p0.xCwnd < p0.xMss)) (kr) (cond (decide (1073741824 < p0.xCwnd)) (kr) (cond (!decide (p0.xSsthresh = 1073741824)) (kr) (cond (!decide (p0.xAcc = 0)) (kr) (G_ref15_Plain cp n p0 false true (fun r24 => cond (!r24) (kr) (kn)))))))))
def s_ref18_Check_4 {R : Type} (cp : Nat → Nat → Bool) (n : Nat) (p0 : SCc) (kn : Bool → Option R) : Option R :=
  cond (decide (p0.xMode < 1)) (kn true) (cond (decide (4 < p0.xMode)) (kn true) (G_ref12_Check cp n p0.xBw true (fun r25 => cond (!decide (r25 = 0)) (kn true) (G_ref18_time cp n p0.xMinRtt (fun r26 => cond (!r26) (kn true) (G_ref18_time cp n p0.xMinAt (fun r27 => cond (!r27) (kn true) (G_ref18_time cp n p0.xNextAt (fun r28 => cond (!r28) (kn true) (G_ref18_time cp n p0.xPhaseAt (fun r29 => cond (!r29) (kn true) (G_ref18_time cp n p0.xDoneAt (fun r30 => cond (!r30) (kn true) (G_ref18_time cp n p0.xRound (fun r31 => kn (!r31))))))))))))))))
def s_ref18_Check_6 {R : Type} (cp : Nat → Nat → Bool) (n : Nat) (p0 : SCc) (v32 : Bool) (kn : Option R) (kr : Option R) : Option R :=
  cond (v32) (kr) (kn)
def s_ref18_Check_7 {R : Type} (cp : Nat → Nat → Bool) (n : Nat) (p0 : SCc) (kn : Option R) (kr : Option R) : Option R :=
  s_ref18_Check_4 cp n p0 (fun v32 => s_ref18_Check_6 cp n p0 v32 kn kr)
def s_ref18_Check_8 {R : Type} (cp : Nat → Nat → Bool) (n : Nat) (p0 : SCc) (kn : Option R) : Option R :=
  kn
def s_ref18_Check_10 {R : Type} (cp : Nat → Nat → Bool) (n : Nat) (p0 : SCc) (v33 : Int) (kn : Int → Option R) (kr : Option R) (ke0 : Option R) : Option R :=
  cond (decide (v33 < (p0.xBw.length : Int))) (cond (decide (0 ≤ v33)) (cond (decide (v33 < (p0.xBw.length : Int))) (cond (decide (1099511627776 < ((p0.xBw.getD (Int.toNat v33) zEntry).xV))) (kr) (cond (decide (0 ≤ v33)) (cond (decide (v33 < (p0.xBw.length : Int))) (cond (decide (p0.xRound < ((p0.xBw.getD (Int.toNat v33) zEntry).xAt))) (kr) (kn (wr .i64 (v33 + 1)))) (none)) (none))) (none)) (none)) (ke0)
def l_ref18_Check_13 {R : Type} (cp : Nat → Nat → Bool) (n : Nat) : Nat → SCc → Int → (Option R) → (Option R) → Option R
  | 0, _, _, _, _ => none
  | m + 1, p0, v33, kr, ke0 =>
    s_ref18_Check_10 cp n p0 v33 (fun v34 => l_ref18_Check_13 cp n m p0 v34 kr ke0) kr ke0
def s_ref18_Check_14 {R : Type} (cp : Nat → Nat → Bool) (n : Nat) (p0 : SCc) (kr : Option R) (ke0 : Option R) : Option R :=
  l_ref18_Check_13 cp n n p0 0 kr ke0
def s_ref18_Check_15 {R : Type} (cp : Nat → Nat → Bool) (n : Nat) (p0 : SCc) (kn : Option R) (kr : Option R) : Option R :=
  s_ref18_Check_14 cp n p0 kr kn
def s_ref18_Check_16 {R : Type} (cp : Nat → Nat → Bool) (n : Nat) (p0 : SCc) (kn : Option R) (kr : Option R) : Option R :=
  s_ref18_Check_8 cp n p0 (s_ref18_Check_15 cp n p0 kn kr)
def s_ref18_Check_17 {R : Type} (cp : Nat → Nat → Bool) (n : Nat) (p0 : SCc) (kr : Int → Option R) : Option R :=
  cond (decide (p0.xFull < 0)) (kr 230) (cond (decide (1099511627776 < p0.xFull)) (kr 230) (cond (decide (p0.xFullN < 0)) (kr 230) (cond (decide (3 < p0.xFullN)) (kr 230) (cond (decide (p0.xPhase < 0)) (kr 230) (cond (decide (7 < p0.xPhase)) (kr 230) (G_ref15_Size cp n p0.xPrior (fun r35 => cond (!r35) (kr 230) (kr 0))))))))
def s_ref18_Check_20 {R : Type} (cp : Nat → Nat → Bool) (n : Nat) (p0 : SCc) (kr : Int → Option R) : Option R :=
  s_ref18_Check_16 cp n p0 (s_ref18_Check_17 cp n p0 (fun v36 => (kr v36))) (kr 230)
def s_ref18_Check_22 {R : Type} (cp : Nat → Nat → Bool) (n : Nat) (p0 : SCc) (kr : Int → Option R) : Option R :=
  s_ref18_Check_7 cp n p0 (s_ref18_Check_20 cp n p0 (fun v37 => (kr v37))) (kr 230)
def s_ref18_Check_24 {R : Type} (cp : Nat → Nat → Bool) (n : Nat) (p0 : SCc) (kr : Int → Option R) : Option R :=
  s_ref18_Check_1 cp n p0 (s_ref18_Check_22 cp n p0 (fun v38 => (kr v38))) (kr 230)
def G_ref18_Check {R : Type} (cp : Nat → Nat → Bool) : Nat → SCc → (Int → Option R) → Option R
  | 0, _, _ => none
  | n + 1, p0, k =>
    s_ref18_Check_24 cp n p0 (fun v39 => k v39)
/-! tideway/tidewayref18.Timeout -/
def G_ref18_Timeout {R : Type} (cp : Nat → Nat → Bool) : Nat → SCc → Int → (SCc → Int → Option R) → Option R
  | 0, _, _, _ => none
  | n + 1, p0, p1, k =>
    G_ref18_Check cp n p0 (fun r40 => cond (!decide (r40 = 0)) (k (SCc.mk 0 0 0 0 0 0 0 0 0 0 0 [] 0 0 0 0 0 0 0 0 0 0) 230) (G_ref15_Size cp n p1 (fun r41 => cond (!r41) (k (SCc.mk 0 0 0 0 0 0 0 0 0 0 0 [] 0 0 0 0 0 0 0 0 0 0) 2) (k (SCc.mk p0.xKind p0.xMss p0.xMss p0.xSsthresh p0.xAcc p0.xWmax p0.xEpoch p0.xK p0.xWest p0.xStart p0.xMode p0.xBw p0.xMinRtt p0.xMinAt p0.xRound p0.xNextAt p0.xFull p0.xFullN p0.xPhase p0.xPhaseAt p0.xDoneAt p0.xCwnd) 0))))
/-! tideway/reno.New -/
def G_reno_New {R : Type} (cp : Nat → Nat → Bool) : Nat → Int → Int → (SCc → Int → Option R) → Option R
  | 0, _, _, _ => none
  | n + 1, p0, p1, k =>
    cond (decide (p0 < 1)) (k (SCc.mk 0 0 0 0 0 0 0 0 0 0 0 [] 0 0 0 0 0 0 0 0 0 0) 2) (cond (decide (65000 < p0)) (k (SCc.mk 0 0 0 0 0 0 0 0 0 0 0 [] 0 0 0 0 0 0 0 0 0 0) 2) (cond (decide (p1 < 1)) (k (SCc.mk 0 0 0 0 0 0 0 0 0 0 0 [] 0 0 0 0 0 0 0 0 0 0) 2) (cond (decide (100 < p1)) (k (SCc.mk 0 0 0 0 0 0 0 0 0 0 0 [] 0 0 0 0 0 0 0 0 0 0) 2) (k (SCc.mk 1 p0 (wr .i64 (p0 * p1)) 1073741824 0 0 0 0 0 0 0 [] 0 0 0 0 0 0 0 0 0 0) 0))))
/-! tideway/bbr.New -/
def G_bbr_New {R : Type} (cp : Nat → Nat → Bool) : Nat → Int → Int → (SCc → Int → Option R) → Option R
  | 0, _, _, _ => none
  | n + 1, p0, p1, k =>
    G_reno_New cp n p0 p1 (fun r44 r45 => cond (decide (r45 = 0)) (k (SCc.mk 3 r44.xMss r44.xCwnd r44.xSsthresh r44.xAcc r44.xWmax r44.xEpoch r44.xK r44.xWest r44.xStart 1 r44.xBw r44.xMinRtt r44.xMinAt r44.xRound r44.xNextAt r44.xFull r44.xFullN r44.xPhase r44.xPhaseAt r44.xDoneAt r44.xPrior) r45) (k r44 r45))
/-! tideway/tidewayref15.New -/
def G_ref15_New {R : Type} (cp : Nat → Nat → Bool) : Nat → Int → Int → (SCc → Int → Option R) → Option R
  | 0, _, _, _ => none
  | n + 1, p0, p1, k =>
    cond (decide (p0 < 1)) (k (SCc.mk 0 0 0 0 0 0 0 0 0 0 0 [] 0 0 0 0 0 0 0 0 0 0) 2) (cond (decide (65000 < p0)) (k (SCc.mk 0 0 0 0 0 0 0 0 0 0 0 [] 0 0 0 0 0 0 0 0 0 0) 2) (cond (decide (p1 < 1)) (k (SCc.mk 0 0 0 0 0 0 0 0 0 0 0 [] 0 0 0 0 0 0 0 0 0 0) 2) (cond (decide (100 < p1)) (k (SCc.mk 0 0 0 0 0 0 0 0 0 0 0 [] 0 0 0 0 0 0 0 0 0 0) 2) (k (SCc.mk 1 p0 (wr .i64 (p1 * p0)) 1073741824 0 0 0 0 0 0 0 [] 0 0 0 0 0 0 0 0 0 0) 0))))
/-! tideway/tidewayref18.New -/
def G_ref18_New {R : Type} (cp : Nat → Nat → Bool) : Nat → Int → Int → (SCc → Int → Option R) → Option R
  | 0, _, _, _ => none
  | n + 1, p0, p1, k =>
    G_ref15_New cp n p0 p1 (fun r48 r49 => cond (!decide (r49 = 0)) (k (SCc.mk 0 0 0 0 0 0 0 0 0 0 0 [] 0 0 0 0 0 0 0 0 0 0) r49) (k (SCc.mk 3 r48.xMss r48.xCwnd r48.xSsthresh r48.xAcc r48.xWmax r48.xEpoch r48.xK r48.xWest r48.xStart 1 r48.xBw r48.xMinRtt r48.xMinAt r48.xRound r48.xNextAt r48.xFull r48.xFullN r48.xPhase r48.xPhaseAt r48.xDoneAt r48.xPrior) 0))
/-! tideway/tidewayref15.Same -/
def s_ref15_Same_1 {R : Type} (cp : Nat → Nat → Bool) (n : Nat) (p0 p1 : SCc) (kn : Option R) (kr : Option R) : Option R :=
  cond (!decide (p0.xKind = p1.xKind)) (kr) (cond (!decide (p0.xMss = p1.xMss)) (kr) (cond (!decide (p0.xCwnd = p1.xCwnd)) (kr) (cond (!decide (p0.xSsthresh = p1.xSsthresh)) (kr) (cond (!decide (p0.xAcc = p1.xAcc)) (kr) (cond (!decide (p0.xWmax = p1.xWmax)) (kr) (cond (!decide (p0.xEpoch = p1.xEpoch)) (kr) (cond (!decide (p0.xK = p1.xK)) (kr) (cond (!decide (p0.xWest = p1.xWest)) (kr) (cond (!decide (p0.xStart = p1.xStart)) (kr) (kn))))))))))
def s_ref15_Same_4 {R : Type} (cp : Nat → Nat → Bool) (n : Nat) (p0 p1 : SCc) (kn : Option R) (kr : Option R) : Option R :=
  cond (!decide (p0.xMode = p1.xMode)) (kr) (cond (!decide (p0.xMinRtt = p1.xMinRtt)) (kr) (cond (!decide (p0.xMinAt = p1.xMinAt)) (kr) (cond (!decide (p0.xRound = p1.xRound)) (kr) (cond (!decide (p0.xNextAt = p1.xNextAt)) (kr) (cond (!decide (p0.xFull = p1.xFull)) (kr) (cond (!decide (p0.xFullN = p1.xFullN)) (kr) (cond (!decide (p0.xPhase = p1.xPhase)) (kr) (cond (!decide (p0.xPhaseAt = p1.xPhaseAt)) (kr) (cond (!decide (p0.xDoneAt = p1.xDoneAt)) (kr) (cond (!decide (p0.xPrior = p1.xPrior)) (kr) (cond (!decide ((p0.xBw.length : Int) = (p1.xBw.length : Int))) (kr) (kn))))))))))))
def s_ref15_Same_5 {R : Type} (cp : Nat → Nat → Bool) (n : Nat) (p0 p1 : SCc) (kn : Option R) : Option R :=
  kn
def s_ref15_Same_7 {R : Type} (cp : Nat → Nat → Bool) (n : Nat) (p0 p1 : SCc) (v52 : Int) (kn : Int → Option R) (kr : Option R) (ke0 : Option R) : Option R :=
  cond (decide (v52 < (p0.xBw.length : Int))) (cond (decide (0 ≤ v52)) (cond (decide (v52 < (p0.xBw.length : Int))) (cond (decide (0 ≤ v52)) (cond (decide (v52 < (p1.xBw.length : Int))) (cond (!(decide ((p0.xBw.getD (Int.toNat v52) zEntry).xAt = (p1.xBw.getD (Int.toNat v52) zEntry).xAt) && (decide ((p0.xBw.getD (Int.toNat v52) zEntry).xV = (p1.xBw.getD (Int.toNat v52) zEntry).xV) && true))) (kr) (kn (wr .i64 (v52 + 1)))) (none)) (none)) (none)) (none)) (ke0)
def l_ref15_Same_11 {R : Type} (cp : Nat → Nat → Bool) (n : Nat) : Nat → SCc → SCc → Int → (Option R) → (Option R) → Option R
  | 0, _, _, _, _, _ => none
  | m + 1, p0, p1, v52, kr, ke0 =>
    s_ref15_Same_7 cp n p0 p1 v52 (fun v53 => l_ref15_Same_11 cp n m p0 p1 v53 kr ke0) kr ke0
def s_ref15_Same_12 {R : Type} (cp : Nat → Nat → Bool) (n : Nat) (p0 p1 : SCc) (kr : Option R) (ke0 : Option R) : Option R :=
  l_ref15_Same_11 cp n n p0 p1 0 kr ke0
def s_ref15_Same_13 {R : Type} (cp : Nat → Nat → Bool) (n : Nat) (p0 p1 : SCc) (kn : Option R) (kr : Option R) : Option R :=
  s_ref15_Same_12 cp n p0 p1 kr kn
def s_ref15_Same_14 {R : Type} (cp : Nat → Nat → Bool) (n : Nat) (p0 p1 : SCc) (kn : Option R) (kr : Option R) : Option R :=
  s_ref15_Same_5 cp n p0 p1 (s_ref15_Same_13 cp n p0 p1 kn kr)
def s_ref15_Same_15 {R : Type} (cp : Nat → Nat → Bool) (n : Nat) (kr : Option R) : Option R :=
  kr
def s_ref15_Same_18 {R : Type} (cp : Nat → Nat → Bool) (n : Nat) (p0 p1 : SCc) (kr : Bool → Option R) : Option R :=
  s_ref15_Same_14 cp n p0 p1 (s_ref15_Same_15 cp n (kr true)) (kr false)
def s_ref15_Same_20 {R : Type} (cp : Nat → Nat → Bool) (n : Nat) (p0 p1 : SCc) (kr : Bool → Option R) : Option R :=
  s_ref15_Same_4 cp n p0 p1 (s_ref15_Same_18 cp n p0 p1 (fun v54 => (kr v54))) (kr false)
def s_ref15_Same_22 {R : Type} (cp : Nat → Nat → Bool) (n : Nat) (p0 p1 : SCc) (kr : Bool → Option R) : Option R :=
  s_ref15_Same_1 cp n p0 p1 (s_ref15_Same_20 cp n p0 p1 (fun v55 => (kr v55))) (kr false)
def G_ref15_Same {R : Type} (cp : Nat → Nat → Bool) : Nat → SCc → SCc → (Bool → Option R) → Option R
  | 0, _, _, _ => none
  | n + 1, p0, p1, k =>
    s_ref15_Same_22 cp n p0 p1 (fun v56 => k v56)
/-! (*tideway/bbr.ctl).round -/
def G_bbr_ctl_round {R : Type} (cp : Nat → Nat → Bool) : Nat → SSample → Sctl → (Bool → Sctl → Option R) → Option R
  | 0, _, _, _ => none
  | n + 1, p1, q0, k =>
    cond (decide (p1.xBefore < q0.xCc_NextAt)) (k false q0) (k true (Sctl.mk q0.xCc_Kind q0.xCc_Mss q0.xCc_Cwnd q0.xCc_Ssthresh q0.xCc_Acc q0.xCc_Wmax q0.xCc_Epoch q0.xCc_K q0.xCc_West q0.xCc_Start q0.xCc_Mode q0.xCc_Bw q0.xCc_MinRtt q0.xCc_MinAt (mn 1125899906842624 (wr .i64 (q0.xCc_Round + 1))) p1.xGiven q0.xCc_Full q0.xCc_FullN q0.xCc_Phase q0.xCc_PhaseAt q0.xCc_DoneAt q0.xCc_Prior))
/-! tideway/filter.Best -/
def G_filter_Best {R : Type} (cp : Nat → Nat → Bool) : Nat → (List SEntry) → (Int → Bool → Option R) → Option R
  | 0, _, _ => none
  | n + 1, p0, k =>
    cond (decide ((p0.length : Int) = 0)) (k 0 false) (cond (decide (0 < (p0.length : Int))) (k ((p0.getD 0 zEntry).xV) true) (none))
/-! (*tideway/bbr.ctl).bandwidth -/
def G_bbr_ctl_bandwidth {R : Type} (cp : Nat → Nat → Bool) : Nat → Sctl → (Int → Sctl → Option R) → Option R
  | 0, _, _ => none
  | n + 1, q0, k =>
    G_filter_Best cp n q0.xCc_Bw (fun r38 r39 => k r38 q0)
/-! tideway/filter.Put -/
def s_filter_Put_1 {R : Type} (cp : Nat → Nat → Bool) (n : Nat) (p0 : (List SEntry)) (p1 p2 p3 : Int) (p4 : Bool) (kn : Int → Option R) (kr : Option R) : Option R :=
  G_filter_Check cp n p0 p4 (fun r45 => cond (!decide (r45 = 0)) (kr) (G_filter_may cp n (SEntry.mk p1 p2) (fun r46 => cond (!r46) (kr) (G_filter_may cp n (SEntry.mk p3 0) (fun r47 => cond (!r47) (kr) (cond (decide (0 < (p0.length : Int))) (cond (decide (0 ≤ wr .i64 ((p0.length : Int) - 1))) (cond (decide (wr .i64 ((p0.length : Int) - 1) < (p0.length : Int))) (cond (decide (p1 ≤ ((p0.getD (Int.toNat (wr .i64 ((p0.length : Int) - 1))) zEntry).xAt))) (kr) (kn (p0.length : Int))) (none)) (none)) (kn (p0.length : Int))))))))
def s_filter_Put_4 {R : Type} (cp : Nat → Nat → Bool) (n : Nat) (p0 : (List SEntry)) (p1 p2 p3 : Int) (p4 : Bool) (v48 v49 : Int) (kn : Int → Option R) (ke0 : Option R) : Option R :=
  cond (decide (v49 < v48)) (cond (decide (0 ≤ v49)) (cond (decide (v49 < (p0.length : Int))) (cond (decide ((wr .i64 (((p0.getD (Int.toNat v49) zEntry).xAt) + p3)) < p1)) (kn (wr .i64 (v49 + 1))) (ke0)) (none)) (none)) (ke0)
def l_filter_Put_9 {R : Type} (cp : Nat → Nat → Bool) (n : Nat) : Nat → (List SEntry) → Int → Int → Int → Bool → Int → Int → (Int → Option R) → Option R
  | 0, _, _, _, _, _, _, _, _ => none
  | m + 1, p0, p1, p2, p3, p4, v48, v49, ke0 =>
    s_filter_Put_4 cp n p0 p1 p2 p3 p4 v48 v49 (fun v50 => l_filter_Put_9 cp n m p0 p1 p2 p3 p4 v48 v50 ke0) (ke0 v49)
def s_filter_Put_10 {R : Type} (cp : Nat → Nat → Bool) (n : Nat) (p0 : (List SEntry)) (p1 p2 p3 : Int) (p4 : Bool) (v48 : Int) (ke0 : Int → Option R) : Option R :=
  l_filter_Put_9 cp n n p0 p1 p2 p3 p4 v48 0 ke0
def s_filter_Put_12 {R : Type} (cp : Nat → Nat → Bool) (n : Nat) (p0 : (List SEntry)) (p1 p2 p3 : Int) (p4 : Bool) (v48 : Int) (kn : Int → Option R) : Option R :=
  s_filter_Put_10 cp n p0 p1 p2 p3 p4 v48 (fun v51 => (kn v51))
def s_filter_Put_13 {R : Type} (cp : Nat → Nat → Bool) (n : Nat) (p0 : (List SEntry)) (p1 p2 : Int) (p4 : Bool) (v52 v53 : Int) (kn : Int → Option R) (ke2 : Option R) : Option R :=
  cond (decide (v52 < v53)) (cond (decide (0 ≤ wr .i64 (v53 - 1))) (cond (decide (wr .i64 (v53 - 1) < (p0.length : Int))) (G_filter_beats cp n p2 ((p0.getD (Int.toNat (wr .i64 (v53 - 1))) zEntry).xV) p4 (fun r54 => cond (r54) (kn (wr .i64 (v53 - 1))) (ke2))) (none)) (none)) (ke2)
def l_filter_Put_18 {R : Type} (cp : Nat → Nat → Bool) (n : Nat) : Nat → (List SEntry) → Int → Int → Bool → Int → Int → (Int → Option R) → Option R
  | 0, _, _, _, _, _, _, _ => none
  | m + 1, p0, p1, p2, p4, v52, v53, ke2 =>
    s_filter_Put_13 cp n p0 p1 p2 p4 v52 v53 (fun v55 => l_filter_Put_18 cp n m p0 p1 p2 p4 v52 v55 ke2) (ke2 v53)
def s_filter_Put_19 {R : Type} (cp : Nat → Nat → Bool) (n : Nat) (p0 : (List SEntry)) (p1 p2 : Int) (p4 : Bool) (v48 v52 : Int) (ke2 : Int → Option R) : Option R :=
  l_filter_Put_18 cp n n p0 p1 p2 p4 v52 v48 ke2
def s_filter_Put_21 {R : Type} (cp : Nat → Nat → Bool) (n : Nat) (p0 : (List SEntry)) (p1 p2 : Int) (p4 : Bool) (v48 v52 : Int) (kn : Int → Option R) : Option R :=
  s_filter_Put_19 cp n p0 p1 p2 p4 v48 v52 (fun v56 => (kn v56))
def s_filter_Put_22 {R : Type} (cp : Nat → Nat → Bool) (n : Nat) (p0 : (List SEntry)) (p1 p2 v52 v57 : Int) (kr : (List SEntry) → Option R) : Option R :=
  cond (decide (0 ≤ v52)) (cond (decide (v52 ≤ v57)) (cond (decide (v57 ≤ (p0.length : Int))) (cond (decide (v57 = v57)) (cond (cp ((List.take ((Int.toNat v57) - (Int.toNat v52)) (p0.drop (Int.toNat v52))).length + [(SEntry.mk p1 p2)].length) 16) (kr ((List.take ((Int.toNat v57) - (Int.toNat v52)) (p0.drop (Int.toNat v52))) ++ [(SEntry.mk p1 p2)])) (none)) (none)) (none)) (none)) (none)
def s_filter_Put_25 {R : Type} (cp : Nat → Nat → Bool) (n : Nat) (p0 : (List SEntry)) (p1 p2 : Int) (p4 : Bool) (v48 v52 : Int) (kr : (List SEntry) → Option R) : Option R :=
  s_filter_Put_21 cp n p0 p1 p2 p4 v48 v52 (fun v57 => s_filter_Put_22 cp n p0 p1 p2 v52 v57 (fun v58 => (kr v58)))
def s_filter_Put_27 {R : Type} (cp : Nat → Nat → Bool) (n : Nat) (p0 : (List SEntry)) (p1 p2 p3 : Int) (p4 : Bool) (v48 : Int) (kr : (List SEntry) → Option R) : Option R :=
  s_filter_Put_12 cp n p0 p1 p2 p3 p4 v48 (fun v52 => s_filter_Put_25 cp n p0 p1 p2 p4 v48 v52 (fun v59 => (kr v59)))
def s_filter_Put_29 {R : Type} (cp : Nat → Nat → Bool) (n : Nat) (p0 : (List SEntry)) (p1 p2 p3 : Int) (p4 : Bool) (kr : (List SEntry) → Int → Option R) : Option R :=
  s_filter_Put_1 cp n p0 p1 p2 p3 p4 (fun v48 => s_filter_Put_27 cp n p0 p1 p2 p3 p4 v48 (fun v60 => (kr v60 0))) (kr [] 2)
def G_filter_Put {R : Type} (cp : Nat → Nat → Bool) : Nat → (List SEntry) → Int → Int → Int → Bool → ((List SEntry) → Int → Option R) → Option R
  | 0, _, _, _, _, _, _ => none
  | n + 1, p0, p1, p2, p3, p4, k =>
    s_filter_Put_29 cp n p0 p1 p2 p3 p4 (fun v61 v62 => k v61 v62)
/-! (*tideway/bbr.ctl).speed -/
def s_bbr_ctl_speed_1 {R : Type} (cp : Nat → Nat → Bool) (n : Nat) (p1 : SSample) (q0 : Sctl) (kn : Int → Option R) (kr : Option R) : Option R :=
  cond (decide ((mn 1099511627776 p1.xRate) = 0)) (kr) (cond (p1.xIdle) (G_bbr_ctl_bandwidth cp n q0 (fun r40 r41 => cond (decide ((mn 1099511627776 p1.xRate) < r40)) (kr) (kn (mn 1099511627776 p1.xRate)))) (kn (mn 1099511627776 p1.xRate)))
def s_bbr_ctl_speed_4 {R : Type} (cp : Nat → Nat → Bool) (n : Nat) (q0 : Sctl) (v42 : Int) (kn : (List SEntry) → Option R) : Option R :=
  cond (decide (0 < (q0.xCc_Bw.length : Int))) (cond (decide (0 ≤ wr .i64 ((q0.xCc_Bw.length : Int) - 1))) (cond (decide (wr .i64 ((q0.xCc_Bw.length : Int) - 1) < (q0.xCc_Bw.length : Int))) (cond (decide (((q0.xCc_Bw.getD (Int.toNat (wr .i64 ((q0.xCc_Bw.length : Int) - 1))) zEntry).xAt) = q0.xCc_Round)) (cond (decide (0 ≤ wr .i64 ((q0.xCc_Bw.length : Int) - 1))) (cond (decide (wr .i64 ((q0.xCc_Bw.length : Int) - 1) < (q0.xCc_Bw.length : Int))) (cond (decide (0 ≤ wr .i64 ((q0.xCc_Bw.length : Int) - 1))) (cond (decide (wr .i64 ((q0.xCc_Bw.length : Int) - 1) ≤ (q0.xCc_Bw.length : Int))) (cond (decide (wr .i64 ((q0.xCc_Bw.length : Int) - 1) = wr .i64 ((q0.xCc_Bw.length : Int) - 1))) (G_filter_Put cp n (q0.xCc_Bw.take (Int.toNat (wr .i64 ((q0.xCc_Bw.length : Int) - 1)))) q0.xCc_Round (mx v42 ((q0.xCc_Bw.getD (Int.toNat (wr .i64 ((q0.xCc_Bw.length : Int) - 1))) zEntry).xV)) 10 true (fun r43 r44 => kn r43)) (none)) (none)) (none)) (none)) (none)) (G_filter_Put cp n q0.xCc_Bw q0.xCc_Round v42 10 true (fun r45 r46 => kn r45))) (none)) (none)) (G_filter_Put cp n q0.xCc_Bw q0.xCc_Round v42 10 true (fun r47 r48 => kn r47))
def s_bbr_ctl_speed_7 {R : Type} (cp : Nat → Nat → Bool) (n : Nat) (p1 : SSample) (q0 : Sctl) (kn : (List SEntry) → Option R) (kr : Option R) : Option R :=
  s_bbr_ctl_speed_1 cp n p1 q0 (fun v42 => s_bbr_ctl_speed_4 cp n q0 v42 (fun v49 => (kn v49))) kr
def G_bbr_ctl_speed {R : Type} (cp : Nat → Nat → Bool) : Nat → SSample → Sctl → (Sctl → Option R) → Option R
  | 0, _, _, _ => none
  | n + 1, p1, q0, k =>
    s_bbr_ctl_speed_7 cp n p1 q0 (fun v50 => k (Sctl.mk q0.xCc_Kind q0.xCc_Mss q0.xCc_Cwnd q0.xCc_Ssthresh q0.xCc_Acc q0.xCc_Wmax q0.xCc_Epoch q0.xCc_K q0.xCc_West q0.xCc_Start q0.xCc_Mode v50 q0.xCc_MinRtt q0.xCc_MinAt q0.xCc_Round q0.xCc_NextAt q0.xCc_Full q0.xCc_FullN q0.xCc_Phase q0.xCc_PhaseAt q0.xCc_DoneAt q0.xCc_Prior)) (k q0)
/-! (*tideway/bbr.ctl).shortest -/
def G_bbr_ctl_shortest {R : Type} (cp : Nat → Nat → Bool) : Nat → SSample → Sctl → (Bool → Sctl → Option R) → Option R
  | 0, _, _, _ => none
  | n + 1, p1, q0, k =>
    cond (decide (0 < q0.xCc_MinRtt)) (cond (decide (0 < p1.xRtt)) (cond (decide (10000000 < (wr .i64 (p1.xNow - q0.xCc_MinAt)))) (k (decide (10000000 < (wr .i64 (p1.xNow - q0.xCc_MinAt)))) (Sctl.mk q0.xCc_Kind q0.xCc_Mss q0.xCc_Cwnd q0.xCc_Ssthresh q0.xCc_Acc q0.xCc_Wmax q0.xCc_Epoch q0.xCc_K q0.xCc_West q0.xCc_Start q0.xCc_Mode q0.xCc_Bw p1.xRtt p1.xNow q0.xCc_Round q0.xCc_NextAt q0.xCc_Full q0.xCc_FullN q0.xCc_Phase q0.xCc_PhaseAt q0.xCc_DoneAt q0.xCc_Prior)) (cond (decide (q0.xCc_MinRtt = 0)) (k (decide (10000000 < (wr .i64 (p1.xNow - q0.xCc_MinAt)))) (Sctl.mk q0.xCc_Kind q0.xCc_Mss q0.xCc_Cwnd q0.xCc_Ssthresh q0.xCc_Acc q0.xCc_Wmax q0.xCc_Epoch q0.xCc_K q0.xCc_West q0.xCc_Start q0.xCc_Mode q0.xCc_Bw p1.xRtt p1.xNow q0.xCc_Round q0.xCc_NextAt q0.xCc_Full q0.xCc_FullN q0.xCc_Phase q0.xCc_PhaseAt q0.xCc_DoneAt q0.xCc_Prior)) (cond (decide (p1.xRtt ≤ q0.xCc_MinRtt)) (k (decide (10000000 < (wr .i64 (p1.xNow - q0.xCc_MinAt)))) (Sctl.mk q0.xCc_Kind q0.xCc_Mss q0.xCc_Cwnd q0.xCc_Ssthresh q0.xCc_Acc q0.xCc_Wmax q0.xCc_Epoch q0.xCc_K q0.xCc_West q0.xCc_Start q0.xCc_Mode q0.xCc_Bw p1.xRtt p1.xNow q0.xCc_Round q0.xCc_NextAt q0.xCc_Full q0.xCc_FullN q0.xCc_Phase q0.xCc_PhaseAt q0.xCc_DoneAt q0.xCc_Prior)) (k (decide (10000000 < (wr .i64 (p1.xNow - q0.xCc_MinAt)))) q0)))) (k (decide (10000000 < (wr .i64 (p1.xNow - q0.xCc_MinAt)))) q0)) (cond (decide (0 < p1.xRtt)) (cond (decide (q0.xCc_MinRtt = 0)) (k false (Sctl.mk q0.xCc_Kind q0.xCc_Mss q0.xCc_Cwnd q0.xCc_Ssthresh q0.xCc_Acc q0.xCc_Wmax q0.xCc_Epoch q0.xCc_K q0.xCc_West q0.xCc_Start q0.xCc_Mode q0.xCc_Bw p1.xRtt p1.xNow q0.xCc_Round q0.xCc_NextAt q0.xCc_Full q0.xCc_FullN q0.xCc_Phase q0.xCc_PhaseAt q0.xCc_DoneAt q0.xCc_Prior)) (cond (decide (p1.xRtt ≤ q0.xCc_MinRtt)) (k false (Sctl.mk q0.xCc_Kind q0.xCc_Mss q0.xCc_Cwnd q0.xCc_Ssthresh q0.xCc_Acc q0.xCc_Wmax q0.xCc_Epoch q0.xCc_K q0.xCc_West q0.xCc_Start q0.xCc_Mode q0.xCc_Bw p1.xRtt p1.xNow q0.xCc_Round q0.xCc_NextAt q0.xCc_Full q0.xCc_FullN q0.xCc_Phase q0.xCc_PhaseAt q0.xCc_DoneAt q0.xCc_Prior)) (k false q0))) (k false q0))
/-! (*tideway/bbr.ctl).full -/
def G_bbr_ctl_full {R : Type} (cp : Nat → Nat → Bool) : Nat → Sctl → (Sctl → Option R) → Option R
  | 0, _, _ => none
  | n + 1, q0, k =>
    G_bbr_ctl_bandwidth cp n q0 (fun r51 r52 => cond (decide (r51 = 0)) (k q0) (cond (decide ((wr .i64 (5 * q0.xCc_Full)) ≤ (wr .i64 (4 * r51)))) (k (Sctl.mk q0.xCc_Kind q0.xCc_Mss q0.xCc_Cwnd q0.xCc_Ssthresh q0.xCc_Acc q0.xCc_Wmax q0.xCc_Epoch q0.xCc_K q0.xCc_West q0.xCc_Start q0.xCc_Mode q0.xCc_Bw q0.xCc_MinRtt q0.xCc_MinAt q0.xCc_Round q0.xCc_NextAt r51 0 q0.xCc_Phase q0.xCc_PhaseAt q0.xCc_DoneAt q0.xCc_Prior)) (cond (decide ((mn 3 (wr .i64 (q0.xCc_FullN + 1))) = 3)) (k (Sctl.mk q0.xCc_Kind q0.xCc_Mss q0.xCc_Cwnd q0.xCc_Ssthresh q0.xCc_Acc q0.xCc_Wmax q0.xCc_Epoch q0.xCc_K q0.xCc_West q0.xCc_Start 2 q0.xCc_Bw q0.xCc_MinRtt q0.xCc_MinAt q0.xCc_Round q0.xCc_NextAt q0.xCc_Full (mn 3 (wr .i64 (q0.xCc_FullN + 1))) q0.xCc_Phase q0.xCc_PhaseAt q0.xCc_DoneAt q0.xCc_Prior)) (k (Sctl.mk q0.xCc_Kind q0.xCc_Mss q0.xCc_Cwnd q0.xCc_Ssthresh q0.xCc_Acc q0.xCc_Wmax q0.xCc_Epoch q0.xCc_K q0.xCc_West q0.xCc_Start q0.xCc_Mode q0.xCc_Bw q0.xCc_MinRtt q0.xCc_MinAt q0.xCc_Round q0.xCc_NextAt q0.xCc_Full (mn 3 (wr .i64 (q0.xCc_FullN + 1))) q0.xCc_Phase q0.xCc_PhaseAt q0.xCc_DoneAt q0.xCc_Prior)))))
/-! math/bits.Mul64 -/
def G_math_bits_Mul64 {R : Type} (cp : Nat → Nat → Bool) : Nat → Int → Int → (Int → Int → Option R) → Option R
  | 0, _, _, _ => none
  | n + 1, p0, p1, k =>
    k (wr .u64 ((wr .u64 ((wr .u64 ((shr .u64 p0 32) * (shr .u64 p1 32))) + (shr .u64 (wr .u64 ((wr .u64 ((shr .u64 p0 32) * (bits .and .u64 p1 4294967295))) + (shr .u64 (wr .u64 ((bits .and .u64 p0 4294967295) * (bits .and .u64 p1 4294967295))) 32))) 32))) + (shr .u64 (wr .u64 ((bits .and .u64 (wr .u64 ((wr .u64 ((shr .u64 p0 32) * (bits .and .u64 p1 4294967295))) + (shr .u64 (wr .u64 ((bits .and .u64 p0 4294967295) * (bits .and .u64 p1 4294967295))) 32))) 4294967295) + (wr .u64 ((bits .and .u64 p0 4294967295) * (shr .u64 p1 32))))) 32))) (wr .u64 (p0 * p1))
/-! math/bits.Len64 -/
def G_math_bits_Len64 {R : Type} (cp : Nat → Nat → Bool) : Nat → Int → (Int → Option R) → Option R
  | 0, _, _ => none
  | n + 1, p0, k =>
    cond (decide (4294967296 ≤ p0)) (cond (decide (65536 ≤ (shr .u64 p0 32))) (cond (decide (256 ≤ (shr .u64 (shr .u64 p0 32) 16))) (cond (decide (0 ≤ wr .u8 (shr .u64 (shr .u64 (shr .u64 p0 32) 16) 8))) (cond (decide (wr .u8 (shr .u64 (shr .u64 (shr .u64 p0 32) 16) 8) < (ByteArray.size tab256_2793 : Int))) (k (wr .i64 ((wr .i64 ((wr .i64 (32 + 16)) + 8)) + (wr .i64 ((tab256_2793.data.getD (Int.toNat (wr .u8 (shr .u64 (shr .u64 (shr .u64 p0 32) 16) 8))) 0).toNat : Int))))) (none)) (none)) (cond (decide (0 ≤ wr .u8 (shr .u64 (shr .u64 p0 32) 16))) (cond (decide (wr .u8 (shr .u64 (shr .u64 p0 32) 16) < (ByteArray.size tab256_2793 : Int))) (k (wr .i64 ((wr .i64 (32 + 16)) + (wr .i64 ((tab256_2793.data.getD (Int.toNat (wr .u8 (shr .u64 (shr .u64 p0 32) 16))) 0).toNat : Int))))) (none)) (none))) (cond (decide (256 ≤ (shr .u64 p0 32))) (cond (decide (0 ≤ wr .u8 (shr .u64 (shr .u64 p0 32) 8))) (cond (decide (wr .u8 (shr .u64 (shr .u64 p0 32) 8) < (ByteArray.size tab256_2793 : Int))) (k (wr .i64 ((wr .i64 (32 + 8)) + (wr .i64 ((tab256_2793.data.getD (Int.toNat (wr .u8 (shr .u64 (shr .u64 p0 32) 8))) 0).toNat : Int))))) (none)) (none)) (cond (decide (0 ≤ wr .u8 (shr .u64 p0 32))) (cond (decide (wr .u8 (shr .u64 p0 32) < (ByteArray.size tab256_2793 : Int))) (k (wr .i64 (32 + (wr .i64 ((tab256_2793.data.getD (Int.toNat (wr .u8 (shr .u64 p0 32))) 0).toNat : Int))))) (none)) (none)))) (cond (decide (65536 ≤ p0)) (cond (decide (256 ≤ (shr .u64 p0 16))) (cond (decide (0 ≤ wr .u8 (shr .u64 (shr .u64 p0 16) 8))) (cond (decide (wr .u8 (shr .u64 (shr .u64 p0 16) 8) < (ByteArray.size tab256_2793 : Int))) (k (wr .i64 ((wr .i64 ((wr .i64 (0 + 16)) + 8)) + (wr .i64 ((tab256_2793.data.getD (Int.toNat (wr .u8 (shr .u64 (shr .u64 p0 16) 8))) 0).toNat : Int))))) (none)) (none)) (cond (decide (0 ≤ wr .u8 (shr .u64 p0 16))) (cond (decide (wr .u8 (shr .u64 p0 16) < (ByteArray.size tab256_2793 : Int))) (k (wr .i64 ((wr .i64 (0 + 16)) + (wr .i64 ((tab256_2793.data.getD (Int.toNat (wr .u8 (shr .u64 p0 16))) 0).toNat : Int))))) (none)) (none))) (cond (decide (256 ≤ p0)) (cond (decide (0 ≤ wr .u8 (shr .u64 p0 8))) (cond (decide (wr .u8 (shr .u64 p0 8) < (ByteArray.size tab256_2793 : Int))) (k (wr .i64 ((wr .i64 (0 + 8)) + (wr .i64 ((tab256_2793.data.getD (Int.toNat (wr .u8 (shr .u64 p0 8))) 0).toNat : Int))))) (none)) (none)) (cond (decide (0 ≤ wr .u8 p0)) (cond (decide (wr .u8 p0 < (ByteArray.size tab256_2793 : Int))) (k (wr .i64 (0 + (wr .i64 ((tab256_2793.data.getD (Int.toNat (wr .u8 p0)) 0).toNat : Int))))) (none)) (none))))
/-! math/bits.LeadingZeros64 -/
def G_math_bits_LeadingZeros64 {R : Type} (cp : Nat → Nat → Bool) : Nat → Int → (Int → Option R) → Option R
  | 0, _, _ => none
  | n + 1, p0, k =>
    G_math_bits_Len64 cp n p0 (fun r58 => k (wr .i64 (64 - r58)))
/-! math/bits.Div64 -/
def s_math_bits_Div64_1 {R : Type} (cp : Nat → Nat → Bool) (n : Nat) (p0 p1 p2 : Int) (kn : Int → Int → Int → Int → Int → Int → Int → Int → Int → Option R) (kr : Int → Int → Option R) : Option R :=
  cond (decide (p2 = 0)) (none) (cond (decide (p2 ≤ p0)) (none) (cond (decide (p0 = 0)) (cond (decide (p2 = 0)) (none) (cond (decide (p2 = 0)) (none) (kr (wr .u64 (Int.tdiv p1 p2)) (Int.tmod p1 p2)))) (G_math_bits_LeadingZeros64 cp n p2 (fun r68 => cond (decide ((wr .u64 r68) < 0)) (none) (cond (decide ((wr .u64 r68) < 0)) (none) (cond (decide ((wr .u64 (64 - (wr .u64 r68))) < 0)) (none) (cond (decide ((wr .u64 r68) < 0)) (none) (cond (decide ((shr .u64 (shl .u64 p2 (wr .u64 r68)) 32) = 0)) (none) (kn (shl .u64 p2 (wr .u64 r68)) (wr .u64 r68) (shr .u64 (shl .u64 p2 (wr .u64 r68)) 32) (bits .and .u64 (shl .u64 p2 (wr .u64 r68)) 4294967295) (bits .or .u64 (shl .u64 p0 (wr .u64 r68)) (shr .u64 p1 (wr .u64 (64 - (wr .u64 r68))))) (shr .u64 (shl .u64 p1 (wr .u64 r68)) 32) (bits .and .u64 (shl .u64 p1 (wr .u64 r68)) 4294967295) (wr .u64 (Int.tdiv (bits .or .u64 (shl .u64 p0 (wr .u64 r68)) (shr .u64 p1 (wr .u64 (64 - (wr .u64 r68))))) (shr .u64 (shl .u64 p2 (wr .u64 r68)) 32))) (wr .u64 ((bits .or .u64 (shl .u64 p0 (wr .u64 r68)) (shr .u64 p1 (wr .u64 (64 - (wr .u64 r68))))) - (wr .u64 ((wr .u64 (Int.tdiv (bits .or .u64 (shl .u64 p0 (wr .u64 r68)) (shr .u64 p1 (wr .u64 (64 - (wr .u64 r68))))) (shr .u64 (shl .u64 p2 (wr .u64 r68)) 32))) * (shr .u64 (shl .u64 p2 (wr .u64 r68)) 32))))))))))))))
def s_math_bits_Div64_4 {R : Type} (cp : Nat → Nat → Bool) (n : Nat) (v69 v70 v71 v72 v73 v74 v75 v80 v81 : Int) (kn : Int → Int → Option R) (ke0 : Int → Option R) : Option R :=
  cond (decide (4294967296 ≤ v80)) (cond (decide (4294967296 ≤ (wr .u64 (v81 + v71)))) (ke0 (wr .u64 (v80 - 1))) (kn (wr .u64 (v80 - 1)) (wr .u64 (v81 + v71)))) (cond (decide ((wr .u64 ((wr .u64 (4294967296 * v81)) + v74)) < (wr .u64 (v80 * v72)))) (cond (decide (4294967296 ≤ (wr .u64 (v81 + v71)))) (ke0 (wr .u64 (v80 - 1))) (kn (wr .u64 (v80 - 1)) (wr .u64 (v81 + v71)))) (ke0 v80))
def l_math_bits_Div64_9 {R : Type} (cp : Nat → Nat → Bool) (n : Nat) : Nat → Int → Int → Int → Int → Int → Int → Int → Int → Int → (Int → Option R) → Option R
  | 0, _, _, _, _, _, _, _, _, _, _ => none
  | m + 1, v69, v70, v71, v72, v73, v74, v75, v80, v81, ke0 =>
    s_math_bits_Div64_4 cp n v69 v70 v71 v72 v73 v74 v75 v80 v81 (fun v82 v83 => l_math_bits_Div64_9 cp n m v69 v70 v71 v72 v73 v74 v75 v82 v83 ke0) (fun v84 => (ke0 v84))
def s_math_bits_Div64_10 {R : Type} (cp : Nat → Nat → Bool) (n : Nat) (v69 v70 v71 v72 v73 v74 v75 v76 v77 : Int) (ke0 : Int → Option R) : Option R :=
  l_math_bits_Div64_9 cp n n v69 v70 v71 v72 v73 v74 v75 v76 v77 ke0
def s_math_bits_Div64_12 {R : Type} (cp : Nat → Nat → Bool) (n : Nat) (v69 v70 v71 v72 v73 v74 v75 v76 v77 : Int) (kn : Int → Option R) : Option R :=
  s_math_bits_Div64_10 cp n v69 v70 v71 v72 v73 v74 v75 v76 v77 (fun v85 => (kn v85))
def s_math_bits_Div64_13 {R : Type} (cp : Nat → Nat → Bool) (n : Nat) (v69 v70 v71 v72 v73 v74 v75 v86 : Int) (kn : Int → Int → Int → Option R) : Option R :=
  cond (decide (v71 = 0)) (none) (kn (wr .u64 ((wr .u64 ((wr .u64 ((wr .u64 (v73 * 4294967296)) + v74)) - (wr .u64 (v86 * v69)))) - (wr .u64 ((wr .u64 (Int.tdiv (wr .u64 ((wr .u64 ((wr .u64 (v73 * 4294967296)) + v74)) - (wr .u64 (v86 * v69)))) v71)) * v71)))) (wr .u64 ((wr .u64 ((wr .u64 (v73 * 4294967296)) + v74)) - (wr .u64 (v86 * v69)))) (wr .u64 (Int.tdiv (wr .u64 ((wr .u64 ((wr .u64 (v73 * 4294967296)) + v74)) - (wr .u64 (v86 * v69)))) v71)))
def s_math_bits_Div64_15 {R : Type} (cp : Nat → Nat → Bool) (n : Nat) (v69 v70 v71 v72 v75 v86 v88 v90 v91 : Int) (kn : Int → Int → Option R) (ke2 : Int → Option R) : Option R :=
  cond (decide (4294967296 ≤ v91)) (cond (decide (4294967296 ≤ (wr .u64 (v90 + v71)))) (ke2 (wr .u64 (v91 - 1))) (kn (wr .u64 (v90 + v71)) (wr .u64 (v91 - 1)))) (cond (decide ((wr .u64 ((wr .u64 (4294967296 * v90)) + v75)) < (wr .u64 (v91 * v72)))) (cond (decide (4294967296 ≤ (wr .u64 (v90 + v71)))) (ke2 (wr .u64 (v91 - 1))) (kn (wr .u64 (v90 + v71)) (wr .u64 (v91 - 1)))) (ke2 v91))
def l_math_bits_Div64_20 {R : Type} (cp : Nat → Nat → Bool) (n : Nat) : Nat → Int → Int → Int → Int → Int → Int → Int → Int → Int → (Int → Option R) → Option R
  | 0, _, _, _, _, _, _, _, _, _, _ => none
  | m + 1, v69, v70, v71, v72, v75, v86, v88, v90, v91, ke2 =>
    s_math_bits_Div64_15 cp n v69 v70 v71 v72 v75 v86 v88 v90 v91 (fun v92 v93 => l_math_bits_Div64_20 cp n m v69 v70 v71 v72 v75 v86 v88 v92 v93 ke2) (fun v94 => (ke2 v94))
def s_math_bits_Div64_21 {R : Type} (cp : Nat → Nat → Bool) (n : Nat) (v69 v70 v71 v72 v75 v86 v87 v88 v89 : Int) (ke2 : Int → Option R) : Option R :=
  l_math_bits_Div64_20 cp n n v69 v70 v71 v72 v75 v86 v88 v87 v89 ke2
def s_math_bits_Div64_23 {R : Type} (cp : Nat → Nat → Bool) (n : Nat) (v69 v70 v71 v72 v75 v86 v87 v88 v89 : Int) (kn : Int → Option R) : Option R :=
  s_math_bits_Div64_21 cp n v69 v70 v71 v72 v75 v86 v87 v88 v89 (fun v95 => (kn v95))
def s_math_bits_Div64_24 {R : Type} (cp : Nat → Nat → Bool) (n : Nat) (v69 v70 v75 v86 v88 v96 : Int) (kr : Int → Int → Option R) : Option R :=
  cond (decide (v70 < 0)) (none) (kr (wr .u64 ((wr .u64 (v86 * 4294967296)) + v96)) (shr .u64 (wr .u64 ((wr .u64 ((wr .u64 (v88 * 4294967296)) + v75)) - (wr .u64 (v96 * v69)))) v70))
def s_math_bits_Div64_27 {R : Type} (cp : Nat → Nat → Bool) (n : Nat) (v69 v70 v71 v72 v75 v86 v87 v88 v89 : Int) (kr : Int → Int → Option R) : Option R :=
  s_math_bits_Div64_23 cp n v69 v70 v71 v72 v75 v86 v87 v88 v89 (fun v96 => s_math_bits_Div64_24 cp n v69 v70 v75 v86 v88 v96 (fun v97 v98 => (kr v97 v98)))
def s_math_bits_Div64_29 {R : Type} (cp : Nat → Nat → Bool) (n : Nat) (v69 v70 v71 v72 v73 v74 v75 v86 : Int) (kr : Int → Int → Option R) : Option R :=
  s_math_bits_Div64_13 cp n v69 v70 v71 v72 v73 v74 v75 v86 (fun v87 v88 v89 => s_math_bits_Div64_27 cp n v69 v70 v71 v72 v75 v86 v87 v88 v89 (fun v99 v100 => (kr v99 v100)))
def s_math_bits_Div64_31 {R : Type} (cp : Nat → Nat → Bool) (n : Nat) (v69 v70 v71 v72 v73 v74 v75 v76 v77 : Int) (kr : Int → Int → Option R) : Option R :=
  s_math_bits_Div64_12 cp n v69 v70 v71 v72 v73 v74 v75 v76 v77 (fun v86 => s_math_bits_Div64_29 cp n v69 v70 v71 v72 v73 v74 v75 v86 (fun v101 v102 => (kr v101 v102)))
def s_math_bits_Div64_33 {R : Type} (cp : Nat → Nat → Bool) (n : Nat) (p0 p1 p2 : Int) (kr : Int → Int → Option R) : Option R :=
  s_math_bits_Div64_1 cp n p0 p1 p2 (fun v69 v70 v71 v72 v73 v74 v75 v76 v77 => s_math_bits_Div64_31 cp n v69 v70 v71 v72 v73 v74 v75 v76 v77 (fun v103 v104 => (kr v103 v104))) (fun v78 v79 => (kr v78 v79))
def G_math_bits_Div64 {R : Type} (cp : Nat → Nat → Bool) : Nat → Int → Int → Int → (Int → Int → Option R) → Option R
  | 0, _, _, _, _ => none
  | n + 1, p0, p1, p2, k =>
    s_math_bits_Div64_33 cp n p0 p1 p2 (fun v105 v106 => k v105 v106)
/-! tideway/seq.MulDiv -/
def G_seq_MulDiv {R : Type} (cp : Nat → Nat → Bool) : Nat → Int → Int → Int → (Int → Int → Option R) → Option R
  | 0, _, _, _, _ => none
  | n + 1, p0, p1, p2, k =>
    cond (decide (p0 < 0)) (k 0 2) (cond (decide (p1 < 0)) (k 0 2) (cond (decide (p2 ≤ 0)) (k 0 2) (G_math_bits_Mul64 cp n (wr .u64 p0) (wr .u64 p1) (fun r56 r57 => cond (decide ((wr .u64 p2) ≤ r56)) (k 9223372036854775807 0) (G_math_bits_Div64 cp n r56 r57 (wr .u64 p2) (fun r107 r108 => k (wr .i64 (mn r107 9223372036854775807)) 0))))))
/-! (*tideway/bbr.ctl).product -/
def G_bbr_ctl_product {R : Type} (cp : Nat → Nat → Bool) : Nat → Sctl → (Int → Sctl → Option R) → Option R
  | 0, _, _ => none
  | n + 1, q0, k =>
    G_bbr_ctl_bandwidth cp n q0 (fun r54 r55 => G_seq_MulDiv cp n r54 q0.xCc_MinRtt 1000000 (fun r109 r110 => k (mn 1073741824 r109) q0))
/-! (*tideway/bbr.ctl).probe -/
def G_bbr_ctl_probe {R : Type} (cp : Nat → Nat → Bool) : Nat → Int → Sctl → (Sctl → Option R) → Option R
  | 0, _, _, _ => none
  | n + 1, p1, q0, k =>
    k (Sctl.mk q0.xCc_Kind q0.xCc_Mss q0.xCc_Cwnd q0.xCc_Ssthresh q0.xCc_Acc q0.xCc_Wmax q0.xCc_Epoch q0.xCc_K q0.xCc_West q0.xCc_Start 3 q0.xCc_Bw q0.xCc_MinRtt q0.xCc_MinAt q0.xCc_Round q0.xCc_NextAt q0.xCc_Full q0.xCc_FullN 2 p1 q0.xCc_DoneAt q0.xCc_Prior)
/-! (*tideway/bbr.ctl).cycle -/
def G_bbr_ctl_cycle {R : Type} (cp : Nat → Nat → Bool) : Nat → SSample → Sctl → (Sctl → Option R) → Option R
  | 0, _, _, _ => none
  | n + 1, p1, q0, k =>
    cond (decide (q0.xCc_Mode = 2)) (G_bbr_ctl_product cp n q0 (fun r111 r112 => cond (decide (p1.xFlight ≤ r111)) (G_bbr_ctl_probe cp n p1.xNow q0 (fun r113 => k r113)) (cond (decide (q0.xCc_Mode = 3)) (cond (decide (q0.xCc_MinRtt < (wr .i64 (p1.xNow - q0.xCc_PhaseAt)))) (k (Sctl.mk q0.xCc_Kind q0.xCc_Mss q0.xCc_Cwnd q0.xCc_Ssthresh q0.xCc_Acc q0.xCc_Wmax q0.xCc_Epoch q0.xCc_K q0.xCc_West q0.xCc_Start q0.xCc_Mode q0.xCc_Bw q0.xCc_MinRtt q0.xCc_MinAt q0.xCc_Round q0.xCc_NextAt q0.xCc_Full q0.xCc_FullN (Int.tmod (wr .i64 (q0.xCc_Phase + 1)) 8) p1.xNow q0.xCc_DoneAt q0.xCc_Prior)) (k q0)) (k q0)))) (cond (decide (q0.xCc_Mode = 3)) (cond (decide (q0.xCc_MinRtt < (wr .i64 (p1.xNow - q0.xCc_PhaseAt)))) (k (Sctl.mk q0.xCc_Kind q0.xCc_Mss q0.xCc_Cwnd q0.xCc_Ssthresh q0.xCc_Acc q0.xCc_Wmax q0.xCc_Epoch q0.xCc_K q0.xCc_West q0.xCc_Start q0.xCc_Mode q0.xCc_Bw q0.xCc_MinRtt q0.xCc_MinAt q0.xCc_Round q0.xCc_NextAt q0.xCc_Full q0.xCc_FullN (Int.tmod (wr .i64 (q0.xCc_Phase + 1)) 8) p1.xNow q0.xCc_DoneAt q0.xCc_Prior)) (k q0)) (k q0))
/-! (*tideway/bbr.ctl).ask -/
def s_bbr_ctl_ask_1 {R : Type} (cp : Nat → Nat → Bool) (n : Nat) (p1 : SSample) (p2 : Bool) (q0 : Sctl) (kn : Option R) : Option R :=
  kn
def s_bbr_ctl_ask_3 {R : Type} (cp : Nat → Nat → Bool) (n : Nat) (p1 : SSample) (p2 : Bool) (q0 : Sctl) (kn : Bool → Option R) : Option R :=
  cond (p2) (kn (!decide (q0.xCc_Mode = 4))) (kn false)
def s_bbr_ctl_ask_5 {R : Type} (cp : Nat → Nat → Bool) (n : Nat) (p1 : SSample) (q0 : Sctl) (v115 : Bool) (kn : SCc → Option R) : Option R :=
  cond (v115) (kn (SCc.mk q0.xCc_Kind q0.xCc_Mss q0.xCc_Cwnd q0.xCc_Ssthresh q0.xCc_Acc q0.xCc_Wmax q0.xCc_Epoch q0.xCc_K q0.xCc_West q0.xCc_Start 4 q0.xCc_Bw q0.xCc_MinRtt q0.xCc_MinAt q0.xCc_Round q0.xCc_NextAt q0.xCc_Full q0.xCc_FullN q0.xCc_Phase q0.xCc_PhaseAt 0 q0.xCc_Cwnd)) (cond (!decide (q0.xCc_Mode = 4)) (kn (SCc.mk q0.xCc_Kind q0.xCc_Mss q0.xCc_Cwnd q0.xCc_Ssthresh q0.xCc_Acc q0.xCc_Wmax q0.xCc_Epoch q0.xCc_K q0.xCc_West q0.xCc_Start q0.xCc_Mode q0.xCc_Bw q0.xCc_MinRtt q0.xCc_MinAt q0.xCc_Round q0.xCc_NextAt q0.xCc_Full q0.xCc_FullN q0.xCc_Phase q0.xCc_PhaseAt q0.xCc_DoneAt q0.xCc_Prior)) (cond (decide (q0.xCc_DoneAt = 0)) (cond (decide (p1.xFlight ≤ (wr .i64 (4 * q0.xCc_Mss)))) (kn (SCc.mk q0.xCc_Kind q0.xCc_Mss q0.xCc_Cwnd q0.xCc_Ssthresh q0.xCc_Acc q0.xCc_Wmax q0.xCc_Epoch q0.xCc_K q0.xCc_West q0.xCc_Start q0.xCc_Mode q0.xCc_Bw q0.xCc_MinRtt q0.xCc_MinAt q0.xCc_Round q0.xCc_NextAt q0.xCc_Full q0.xCc_FullN q0.xCc_Phase q0.xCc_PhaseAt (mn 1125899906842624 (wr .i64 (p1.xNow + 200000))) q0.xCc_Prior)) (cond (decide (0 < q0.xCc_DoneAt)) (cond (decide (q0.xCc_DoneAt ≤ p1.xNow)) (cond (decide (q0.xCc_FullN = 3)) (G_bbr_ctl_probe cp n p1.xNow (Sctl.mk q0.xCc_Kind q0.xCc_Mss (mx q0.xCc_Cwnd q0.xCc_Prior) q0.xCc_Ssthresh q0.xCc_Acc q0.xCc_Wmax q0.xCc_Epoch q0.xCc_K q0.xCc_West q0.xCc_Start q0.xCc_Mode q0.xCc_Bw q0.xCc_MinRtt p1.xNow q0.xCc_Round q0.xCc_NextAt q0.xCc_Full q0.xCc_FullN q0.xCc_Phase q0.xCc_PhaseAt 0 q0.xCc_Prior) (fun r116 => kn (SCc.mk r116.xCc_Kind r116.xCc_Mss r116.xCc_Cwnd r116.xCc_Ssthresh r116.xCc_Acc r116.xCc_Wmax r116.xCc_Epoch r116.xCc_K r116.xCc_West r116.xCc_Start r116.xCc_Mode r116.xCc_Bw r116.xCc_MinRtt r116.xCc_MinAt r116.xCc_Round r116.xCc_NextAt r116.xCc_Full r116.xCc_FullN r116.xCc_Phase r116.xCc_PhaseAt r116.xCc_DoneAt r116.xCc_Prior))) (kn (SCc.mk q0.xCc_Kind q0.xCc_Mss (mx q0.xCc_Cwnd q0.xCc_Prior) q0.xCc_Ssthresh q0.xCc_Acc q0.xCc_Wmax q0.xCc_Epoch q0.xCc_K q0.xCc_West q0.xCc_Start 1 q0.xCc_Bw q0.xCc_MinRtt p1.xNow q0.xCc_Round q0.xCc_NextAt q0.xCc_Full q0.xCc_FullN q0.xCc_Phase q0.xCc_PhaseAt 0 q0.xCc_Prior))) (kn (SCc.mk q0.xCc_Kind q0.xCc_Mss q0.xCc_Cwnd q0.xCc_Ssthresh q0.xCc_Acc q0.xCc_Wmax q0.xCc_Epoch q0.xCc_K q0.xCc_West q0.xCc_Start q0.xCc_Mode q0.xCc_Bw q0.xCc_MinRtt q0.xCc_MinAt q0.xCc_Round q0.xCc_NextAt q0.xCc_Full q0.xCc_FullN q0.xCc_Phase q0.xCc_PhaseAt q0.xCc_DoneAt q0.xCc_Prior))) (kn (SCc.mk q0.xCc_Kind q0.xCc_Mss q0.xCc_Cwnd q0.xCc_Ssthresh q0.xCc_Acc q0.xCc_Wmax q0.xCc_Epoch q0.xCc_K q0.xCc_West q0.xCc_Start q0.xCc_Mode q0.xCc_Bw q0.xCc_MinRtt q0.xCc_MinAt q0.xCc_Round q0.xCc_NextAt q0.xCc_Full q0.xCc_FullN q0.xCc_Phase q0.xCc_PhaseAt q0.xCc_DoneAt q0.xCc_Prior)))) (cond (decide (0 < q0.xCc_DoneAt)) (cond (decide (q0.xCc_DoneAt ≤ p1.xNow)) (cond (decide (q0.xCc_FullN = 3)) (G_bbr_ctl_probe cp n p1.xNow (Sctl.mk q0.xCc_Kind q0.xCc_Mss (mx q0.xCc_Cwnd q0.xCc_Prior) q0.xCc_Ssthresh q0.xCc_Acc q0.xCc_Wmax q0.xCc_Epoch q0.xCc_K q0.xCc_West q0.xCc_Start q0.xCc_Mode q0.xCc_Bw q0.xCc_MinRtt p1.xNow q0.xCc_Round q0.xCc_NextAt q0.xCc_Full q0.xCc_FullN q0.xCc_Phase q0.xCc_PhaseAt 0 q0.xCc_Prior) (fun r117 => kn (SCc.mk r117.xCc_Kind r117.xCc_Mss r117.xCc_Cwnd r117.xCc_Ssthresh r117.xCc_Acc r117.xCc_Wmax r117.xCc_Epoch r117.xCc_K r117.xCc_West r117.xCc_Start r117.xCc_Mode r117.xCc_Bw r117.xCc_MinRtt r117.xCc_MinAt r117.xCc_Round r117.xCc_NextAt r117.xCc_Full r117.xCc_FullN r117.xCc_Phase r117.xCc_PhaseAt r117.xCc_DoneAt r117.xCc_Prior))) (kn (SCc.mk q0.xCc_Kind q0.xCc_Mss (mx q0.xCc_Cwnd q0.xCc_Prior) q0.xCc_Ssthresh q0.xCc_Acc q0.xCc_Wmax q0.xCc_Epoch q0.xCc_K q0.xCc_West q0.xCc_Start 1 q0.xCc_Bw q0.xCc_MinRtt p1.xNow q0.xCc_Round q0.xCc_NextAt q0.xCc_Full q0.xCc_FullN q0.xCc_Phase q0.xCc_PhaseAt 0 q0.xCc_Prior))) (kn (SCc.mk q0.xCc_Kind q0.xCc_Mss q0.xCc_Cwnd q0.xCc_Ssthresh q0.xCc_Acc q0.xCc_Wmax q0.xCc_Epoch q0.xCc_K q0.xCc_West q0.xCc_Start q0.xCc_Mode q0.xCc_Bw q0.xCc_MinRtt q0.xCc_MinAt q0.xCc_Round q0.xCc_NextAt q0.xCc_Full q0.xCc_FullN q0.xCc_Phase q0.xCc_PhaseAt q0.xCc_DoneAt q0.xCc_Prior))) (kn (SCc.mk q0.xCc_Kind q0.xCc_Mss q0.xCc_Cwnd q0.xCc_Ssthresh q0.xCc_Acc q0.xCc_Wmax q0.xCc_Epoch q0.xCc_K q0.xCc_West q0.xCc_Start q0.xCc_Mode q0.xCc_Bw q0.xCc_MinRtt q0.xCc_MinAt q0.xCc_Round q0.xCc_NextAt q0.xCc_Full q0.xCc_FullN q0.xCc_Phase q0.xCc_PhaseAt q0.xCc_DoneAt q0.xCc_Prior)))))
def s_bbr_ctl_ask_8 {R : Type} (cp : Nat → Nat → Bool) (n : Nat) (p1 : SSample) (p2 : Bool) (q0 : Sctl) (kn : SCc → Option R) : Option R :=
  s_bbr_ctl_ask_3 cp n p1 p2 q0 (fun v115 => s_bbr_ctl_ask_5 cp n p1 q0 v115 (fun v118 => (kn v118)))
def s_bbr_ctl_ask_10 {R : Type} (cp : Nat → Nat → Bool) (n : Nat) (p1 : SSample) (p2 : Bool) (q0 : Sctl) (kn : SCc → Option R) : Option R :=
  s_bbr_ctl_ask_8 cp n p1 p2 q0 (fun v119 => (kn v119))
def s_bbr_ctl_ask_12 {R : Type} (cp : Nat → Nat → Bool) (n : Nat) (p1 : SSample) (p2 : Bool) (q0 : Sctl) (kn : SCc → Option R) : Option R :=
  s_bbr_ctl_ask_1 cp n p1 p2 q0 (s_bbr_ctl_ask_10 cp n p1 p2 q0 (fun v120 => (kn v120)))
def G_bbr_ctl_ask {R : Type} (cp : Nat → Nat → Bool) : Nat → SSample → Bool → Sctl → (Sctl → Option R) → Option R
  | 0, _, _, _, _ => none
  | n + 1, p1, p2, q0, k =>
    s_bbr_ctl_ask_12 cp n p1 p2 q0 (fun v121 => k (Sctl.mk v121.xKind v121.xMss v121.xCwnd v121.xSsthresh v121.xAcc v121.xWmax v121.xEpoch v121.xK v121.xWest v121.xStart v121.xMode v121.xBw v121.xMinRtt v121.xMinAt v121.xRound v121.xNextAt v121.xFull v121.xFullN v121.xPhase v121.xPhaseAt v121.xDoneAt v121.xPrior))
/-! tideway/seq.Clamp -/
def G_seq_Clamp {R : Type} (cp : Nat → Nat → Bool) : Nat → Int → Int → Int → (Int → Option R) → Option R
  | 0, _, _, _, _ => none
  | n + 1, p0, p1, p2, k =>
    k (mx p1 (mn p0 p2))
/-! (*tideway/bbr.ctl).window -/
def s_bbr_ctl_window_1 {R : Type} (cp : Nat → Nat → Bool) (n : Nat) (p1 : SSample) (q0 : Sctl) (kn : Int → Option R) : Option R :=
  G_bbr_ctl_product cp n q0 (fun r62 r63 => kn (mx (wr .i64 (2 * r62)) (wr .i64 (4 * q0.xCc_Mss))))
def s_bbr_ctl_window_3 {R : Type} (cp : Nat → Nat → Bool) (n : Nat) (p1 : SSample) (q0 : Sctl) (v64 : Int) (kn : Int → Option R) : Option R :=
  cond (decide (q0.xCc_Mode = 4)) (kn (mn q0.xCc_Cwnd (wr .i64 (4 * q0.xCc_Mss)))) (cond (decide (q0.xCc_FullN = 3)) (kn (mn v64 (wr .i64 (q0.xCc_Cwnd + p1.xAcked)))) (cond (decide (q0.xCc_Cwnd < v64)) (kn (wr .i64 (q0.xCc_Cwnd + p1.xAcked))) (G_bbr_ctl_bandwidth cp n q0 (fun r65 r66 => cond (decide (r65 = 0)) (kn (wr .i64 (q0.xCc_Cwnd + p1.xAcked))) (kn q0.xCc_Cwnd)))))
def s_bbr_ctl_window_5 {R : Type} (cp : Nat → Nat → Bool) (n : Nat) (q0 : Sctl) (v67 : Int) (kn : Int → Option R) : Option R :=
  G_seq_Clamp cp n v67 q0.xCc_Mss 1073741824 (fun r68 => kn r68)
def s_bbr_ctl_window_8 {R : Type} (cp : Nat → Nat → Bool) (n : Nat) (p1 : SSample) (q0 : Sctl) (v64 : Int) (kn : Int → Option R) : Option R :=
  s_bbr_ctl_window_3 cp n p1 q0 v64 (fun v67 => s_bbr_ctl_window_5 cp n q0 v67 (fun v69 => (kn v69)))
def s_bbr_ctl_window_10 {R : Type} (cp : Nat → Nat → Bool) (n : Nat) (p1 : SSample) (q0 : Sctl) (kn : Int → Option R) : Option R :=
  s_bbr_ctl_window_1 cp n p1 q0 (fun v64 => s_bbr_ctl_window_8 cp n p1 q0 v64 (fun v70 => (kn v70)))
def G_bbr_ctl_window {R : Type} (cp : Nat → Nat → Bool) : Nat → SSample → Sctl → (Sctl → Option R) → Option R
  | 0, _, _, _ => none
  | n + 1, p1, q0, k =>
    s_bbr_ctl_window_10 cp n p1 q0 (fun v71 => k (Sctl.mk q0.xCc_Kind q0.xCc_Mss v71 q0.xCc_Ssthresh q0.xCc_Acc q0.xCc_Wmax q0.xCc_Epoch q0.xCc_K q0.xCc_West q0.xCc_Start q0.xCc_Mode q0.xCc_Bw q0.xCc_MinRtt q0.xCc_MinAt q0.xCc_Round q0.xCc_NextAt q0.xCc_Full q0.xCc_FullN q0.xCc_Phase q0.xCc_PhaseAt q0.xCc_DoneAt q0.xCc_Prior))
/-! tideway/bbr.Acked -/
def s_bbr_Acked_1 {R : Type} (cp : Nat → Nat → Bool) (n : Nat) (p0 : SCc) (p1 : SSample) (kn : Bool → SCc → Option R) (kr : Int → Option R) : Option R :=
  G_bbr_Check cp n p0 (fun r40 => cond (!decide (r40 = 0)) (kr r40) (G_bbr_within cp n 1125899906842624 [p1.xNow, p1.xGiven, p1.xBefore, p1.xRtt] (fun r41 => cond (!r41) (kr 2) (G_bbr_within cp n 1073741824 [p1.xAcked, p1.xFlight] (fun r42 => cond (!r42) (kr 2) (cond (decide (p1.xRate < 0)) (kr 2) (G_bbr_ctl_round cp n p1 (Sctl.mk p0.xKind p0.xMss p0.xCwnd p0.xSsthresh p0.xAcc p0.xWmax p0.xEpoch p0.xK p0.xWest p0.xStart p0.xMode p0.xBw p0.xMinRtt p0.xMinAt p0.xRound p0.xNextAt p0.xFull p0.xFullN p0.xPhase p0.xPhaseAt p0.xDoneAt p0.xPrior) (fun r43 r44 => kn r43 (SCc.mk r44.xCc_Kind r44.xCc_Mss r44.xCc_Cwnd r44.xCc_Ssthresh r44.xCc_Acc r44.xCc_Wmax r44.xCc_Epoch r44.xCc_K r44.xCc_West r44.xCc_Start r44.xCc_Mode r44.xCc_Bw r44.xCc_MinRtt r44.xCc_MinAt r44.xCc_Round r44.xCc_NextAt r44.xCc_Full r44.xCc_FullN r44.xCc_Phase r44.xCc_PhaseAt r44.xCc_DoneAt r44.xCc_Prior)))))))))
def s_bbr_Acked_4 {R : Type} (cp : Nat → Nat → Bool) (n : Nat) (p1 : SSample) (v45 : Bool) (v46 : SCc) (kn : Bool → SCc → Option R) : Option R :=
  G_bbr_ctl_speed cp n p1 (Sctl.mk v46.xKind v46.xMss v46.xCwnd v46.xSsthresh v46.xAcc v46.xWmax v46.xEpoch v46.xK v46.xWest v46.xStart v46.xMode v46.xBw v46.xMinRtt v46.xMinAt v46.xRound v46.xNextAt v46.xFull v46.xFullN v46.xPhase v46.xPhaseAt v46.xDoneAt v46.xPrior) (fun r52 => G_bbr_ctl_shortest cp n p1 r52 (fun r53 r54 => cond (v45) (cond (decide (r54.xCc_Mode = 1)) (cond (!p1.xIdle) (G_bbr_ctl_full cp n r54 (fun r55 => kn r53 (SCc.mk r55.xCc_Kind r55.xCc_Mss r55.xCc_Cwnd r55.xCc_Ssthresh r55.xCc_Acc r55.xCc_Wmax r55.xCc_Epoch r55.xCc_K r55.xCc_West r55.xCc_Start r55.xCc_Mode r55.xCc_Bw r55.xCc_MinRtt r55.xCc_MinAt r55.xCc_Round r55.xCc_NextAt r55.xCc_Full r55.xCc_FullN r55.xCc_Phase r55.xCc_PhaseAt r55.xCc_DoneAt r55.xCc_Prior))) (kn r53 (SCc.mk r54.xCc_Kind r54.xCc_Mss r54.xCc_Cwnd r54.xCc_Ssthresh r54.xCc_Acc r54.xCc_Wmax r54.xCc_Epoch r54.xCc_K r54.xCc_West r54.xCc_Start r54.xCc_Mode r54.xCc_Bw r54.xCc_MinRtt r54.xCc_MinAt r54.xCc_Round r54.xCc_NextAt r54.xCc_Full r54.xCc_FullN r54.xCc_Phase r54.xCc_PhaseAt r54.xCc_DoneAt r54.xCc_Prior))) (kn r53 (SCc.mk r54.xCc_Kind r54.xCc_Mss r54.xCc_Cwnd r54.xCc_Ssthresh r54.xCc_Acc r54.xCc_Wmax r54.xCc_Epoch r54.xCc_K r54.xCc_West r54.xCc_Start r54.xCc_Mode r54.xCc_Bw r54.xCc_MinRtt r54.xCc_MinAt r54.xCc_Round r54.xCc_NextAt r54.xCc_Full r54.xCc_FullN r54.xCc_Phase r54.xCc_PhaseAt r54.xCc_DoneAt r54.xCc_Prior))) (kn r53 (SCc.mk r54.xCc_Kind r54.xCc_Mss r54.xCc_Cwnd r54.xCc_Ssthresh r54.xCc_Acc r54.xCc_Wmax r54.xCc_Epoch r54.xCc_K r54.xCc_West r54.xCc_Start r54.xCc_Mode r54.xCc_Bw r54.xCc_MinRtt r54.xCc_MinAt r54.xCc_Round r54.xCc_NextAt r54.xCc_Full r54.xCc_FullN r54.xCc_Phase r54.xCc_PhaseAt r54.xCc_DoneAt r54.xCc_Prior))))
def s_bbr_Acked_6 {R : Type} (cp : Nat → Nat → Bool) (n : Nat) (p1 : SSample) (v56 : Bool) (v57 : SCc) (kr : SCc → Option R) : Option R :=
  G_bbr_ctl_cycle cp n p1 (Sctl.mk v57.xKind v57.xMss v57.xCwnd v57.xSsthresh v57.xAcc v57.xWmax v57.xEpoch v57.xK v57.xWest v57.xStart v57.xMode v57.xBw v57.xMinRtt v57.xMinAt v57.xRound v57.xNextAt v57.xFull v57.xFullN v57.xPhase v57.xPhaseAt v57.xDoneAt v57.xPrior) (fun r58 => G_bbr_ctl_ask cp n p1 v56 r58 (fun r59 => G_bbr_ctl_window cp n p1 r59 (fun r72 => kr (SCc.mk r72.xCc_Kind r72.xCc_Mss r72.xCc_Cwnd r72.xCc_Ssthresh r72.xCc_Acc r72.xCc_Wmax r72.xCc_Epoch r72.xCc_K r72.xCc_West r72.xCc_Start r72.xCc_Mode r72.xCc_Bw r72.xCc_MinRtt r72.xCc_MinAt r72.xCc_Round r72.xCc_NextAt r72.xCc_Full r72.xCc_FullN r72.xCc_Phase r72.xCc_PhaseAt r72.xCc_DoneAt r72.xCc_Prior))))
def s_bbr_Acked_9 {R : Type} (cp : Nat → Nat → Bool) (n : Nat) (p1 : SSample) (v45 : Bool) (v46 : SCc) (kr : SCc → Option R) : Option R :=
  s_bbr_Acked_4 cp n p1 v45 v46 (fun v56 v57 => s_bbr_Acked_6 cp n p1 v56 v57 (fun v73 => (kr v73)))
def s_bbr_Acked_11 {R : Type} (cp : Nat → Nat → Bool) (n : Nat) (p0 : SCc) (p1 : SSample) (kr : Int → SCc → Option R) : Option R :=
  s_bbr_Acked_1 cp n p0 p1 (fun v45 v46 => s_bbr_Acked_9 cp n p1 v45 v46 (fun v74 => (kr 0 v74))) (fun v47 => (kr v47 (SCc.mk 0 0 0 0 0 0 0 0 0 0 0 [] 0 0 0 0 0 0 0 0 0 0)))
def G_bbr_Acked {R : Type} (cp : Nat → Nat → Bool) : Nat → SCc → SSample → (SCc → Int → Option R) → Option R
  | 0, _, _, _ => none
  | n + 1, p0, p1, k =>
    s_bbr_Acked_11 cp n p0 p1 (fun v75 v76 => k v76 v75)
/-! tideway/bbr.Bandwidth -/
def G_bbr_Bandwidth {R : Type} (cp : Nat → Nat → Bool) : Nat → SCc → (Int → Option R) → Option R
  | 0, _, _ => none
  | n + 1, p0, k =>
    G_bbr_Check cp n p0 (fun r59 => cond (!decide (r59 = 0)) (k 0) (G_bbr_ctl_bandwidth cp n (Sctl.mk p0.xKind p0.xMss p0.xCwnd p0.xSsthresh p0.xAcc p0.xWmax p0.xEpoch p0.xK p0.xWest p0.xStart p0.xMode p0.xBw p0.xMinRtt p0.xMinAt p0.xRound p0.xNextAt p0.xFull p0.xFullN p0.xPhase p0.xPhaseAt p0.xDoneAt p0.xPrior) (fun r60 r61 => k r60)))
/-! tideway/bbr.Product -/
def G_bbr_Product {R : Type} (cp : Nat → Nat → Bool) : Nat → SCc → (Int → Option R) → Option R
  | 0, _, _ => none
  | n + 1, p0, k =>
    G_bbr_Check cp n p0 (fun r63 => cond (!decide (r63 = 0)) (k 0) (G_bbr_ctl_product cp n (Sctl.mk p0.xKind p0.xMss p0.xCwnd p0.xSsthresh p0.xAcc p0.xWmax p0.xEpoch p0.xK p0.xWest p0.xStart p0.xMode p0.xBw p0.xMinRtt p0.xMinAt p0.xRound p0.xNextAt p0.xFull p0.xFullN p0.xPhase p0.xPhaseAt p0.xDoneAt p0.xPrior) (fun r64 r65 => k r64)))
/-! tideway/bbr.Gain -/
def G_bbr_Gain {R : Type} (cp : Nat → Nat → Bool) : Nat → SCc → (Int → Option R) → Option R
  | 0, _, _ => none
  | n + 1, p0, k =>
    G_bbr_Check cp n p0 (fun r67 => cond (!decide (r67 = 0)) (k 0) (cond (decide (p0.xMode = 1)) (k 289) (cond (decide (p0.xMode = 2)) (k 35) (cond (decide (p0.xMode = 3)) (cond (decide (p0.xPhase = 0)) (k 125) (cond (decide (p0.xMode = 3)) (cond (decide (p0.xPhase = 1)) (k 75) (k 100)) (k 100))) (cond (decide (p0.xMode = 3)) (cond (decide (p0.xPhase = 1)) (k 75) (k 100)) (k 100))))))
/-! tideway/tidewaylaw18.heads -/
def s_law18_heads_1 {R : Type} (cp : Nat → Nat → Bool) (n : Nat) (kn : Int → Int → Int → Int → SCc → SCc → Option R) : Option R :=
  G_bbr_New cp n 10 4 (fun r43 r44 => G_bbr_Acked cp n r43 (SSample.mk 100000 10 100000 1000000 false 10 0 30) (fun r45 r46 => G_bbr_Timeout cp n r45 5 (fun r47 r48 => G_bbr_New cp n 0 1 (fun r49 r50 => kn r44 r46 r48 r50 r45 r47))))
def s_law18_heads_3 {R : Type} (cp : Nat → Nat → Bool) (n : Nat) (v51 v52 v53 v54 : Int) (v55 v56 : SCc) (kr : Bool → Option R) : Option R :=
  G_bbr_Acked cp n (SCc.mk 0 0 0 0 0 0 0 0 0 0 0 [] 0 0 0 0 0 0 0 0 0 0) (SSample.mk 0 0 0 0 false 0 0 0) (fun r57 r58 => cond (decide (v51 = 0)) (cond (decide (v52 = 0)) (G_bbr_Bandwidth cp n v55 (fun r62 => cond (decide (r62 = 1000000)) (G_bbr_Product cp n v55 (fun r66 => cond (decide (r66 = 100000)) (G_bbr_Gain cp n v55 (fun r68 => cond (decide (r68 = 289)) (cond (decide (v55.xRound = 1)) (cond (decide (v53 = 0)) (cond (decide (v56.xCwnd = 10)) (cond (decide (v54 = 2)) (kr (decide (r58 = 230))) (kr false)) (kr false)) (kr false)) (kr false)) (kr false))) (kr false))) (kr false))) (kr false)) (kr false))
def s_law18_heads_6 {R : Type} (cp : Nat → Nat → Bool) (n : Nat) (kr : Bool → Option R) : Option R :=
  s_law18_heads_1 cp n (fun v51 v52 v53 v54 v55 v56 => s_law18_heads_3 cp n v51 v52 v53 v54 v55 v56 (fun v69 => (kr v69)))
def G_law18_heads {R : Type} (cp : Nat → Nat → Bool) : Nat → (Bool → Option R) → Option R
  | 0, _ => none
  | n + 1, k =>
    s_law18_heads_6 cp n (fun v70 => k v70)
/-! tideway/tidewaylaw18.BbrFalls -/
def s_law18_BbrFalls_1 {R : Type} (cp : Nat → Nat → Bool) (n : Nat) (p0 : SCc) (p1 p2 : Int) (kn : Int → Int → Int → Int → SCc → SCc → SCc → SCc → Option R) : Option R :=
  G_bbr_Timeout cp n p0 p1 (fun r13 r14 => G_ref18_Timeout cp n p0 p1 (fun r15 r16 => G_bbr_New cp n p1 p2 (fun r17 r18 => G_ref18_New cp n p1 p2 (fun r19 r20 => kn r14 r16 r18 r20 r13 r15 r17 r19))))
def s_law18_BbrFalls_3 {R : Type} (cp : Nat → Nat → Bool) (n : Nat) (v21 v22 v23 v24 : Int) (v25 v26 v27 v28 : SCc) (kn : Bool → Option R) : Option R :=
  G_ref15_Same cp n v25 v26 (fun r29 => cond (r29) (cond (decide (v21 = v22)) (G_ref15_Same cp n v27 v28 (fun r30 => cond (r30) (cond (decide (v23 = v24)) (cond (!decide (v23 = 0)) (G_law18_heads cp n (fun r31 => kn r31)) (G_bbr_Check cp n v27 (fun r32 => cond (decide (r32 = 0)) (G_law18_heads cp n (fun r33 => kn r33)) (kn false)))) (kn false)) (kn false))) (kn false)) (kn false))
def s_law18_BbrFalls_5 {R : Type} (cp : Nat → Nat → Bool) (n : Nat) (v34 : Bool) (kr : Option R) : Option R :=
  kr
def s_law18_BbrFalls_7 {R : Type} (cp : Nat → Nat → Bool) (n : Nat) (v21 v22 v23 v24 : Int) (v25 v26 v27 v28 : SCc) (kr : Bool → Option R) : Option R :=
  s_law18_BbrFalls_3 cp n v21 v22 v23 v24 v25 v26 v27 v28 (fun v34 => s_law18_BbrFalls_5 cp n v34 (kr v34))
def s_law18_BbrFalls_9 {R : Type} (cp : Nat → Nat → Bool) (n : Nat) (p0 : SCc) (p1 p2 : Int) (kr : Bool → Option R) : Option R :=
  s_law18_BbrFalls_1 cp n p0 p1 p2 (fun v21 v22 v23 v24 v25 v26 v27 v28 => s_law18_BbrFalls_7 cp n v21 v22 v23 v24 v25 v26 v27 v28 (fun v35 => (kr v35)))
def G_law18_BbrFalls {R : Type} (cp : Nat → Nat → Bool) : Nat → SCc → Int → Int → (Bool → Option R) → Option R
  | 0, _, _, _, _ => none
  | n + 1, p0, p1, p2, k =>
    s_law18_BbrFalls_9 cp n p0 p1 p2 (fun v36 => k v36)
def ca_bbr_within {R : Type} (cp : Nat → Nat → Bool) (n : Nat) (av : Fr) (cs : List Fr) (k : Ret2 RW → Option R) : Option R := match av, cs with
  | [y0, y1], [] => (dI .i64 y0).bind fun p0 => (dRint false y1).bind fun p1 => G_bbr_within cp n p0 p1 (fun r0 => k ⟨(tB r0), []⟩)
  | _, _ => none
def ca_filter_may {R : Type} (cp : Nat → Nat → Bool) (n : Nat) (av : Fr) (cs : List Fr) (k : Ret2 RW → Option R) : Option R := match av, cs with
  | [y0], [] => (dA y0).bind fun c0_ => (dEntry c0_).bind fun p0 => G_filter_may cp n p0 (fun r0 => k ⟨(tB r0), []⟩)
  | _, _ => none
def ca_filter_beats {R : Type} (cp : Nat → Nat → Bool) (n : Nat) (av : Fr) (cs : List Fr) (k : Ret2 RW → Option R) : Option R := match av, cs with
  | [y0, y1, y2], [] => (dI .i64 y0).bind fun p0 => (dI .i64 y1).bind fun p1 => (dB y2).bind fun p2 => G_filter_beats cp n p0 p1 p2 (fun r0 => k ⟨(tB r0), []⟩)
  | _, _ => none
def ca_filter_Check {R : Type} (cp : Nat → Nat → Bool) (n : Nat) (av : Fr) (cs : List Fr) (k : Ret2 RW → Option R) : Option R := match av, cs with
  | [y0, y1], [] => (dREntry false y0).bind fun p0 => (dB y1).bind fun p1 => G_filter_Check cp n p0 p1 (fun r0 => k ⟨(tL r0), []⟩)
  | _, _ => none
def ca_bbr_ctl_entries {R : Type} (cp : Nat → Nat → Bool) (n : Nat) (av : Fr) (cs : List Fr) (k : Ret2 RW → Option R) : Option R := match av, cs with
  | [y0], [w0] => (dP 36 0 y0).bind fun _ => (dctl w0).bind fun q0 => G_bbr_ctl_entries cp n q0 (fun r0 r1 => k ⟨(tB r0), [(ectl r1)]⟩)
  | _, _ => none
def ca_bbr_Check {R : Type} (cp : Nat → Nat → Bool) (n : Nat) (av : Fr) (cs : List Fr) (k : Ret2 RW → Option R) : Option R := match av, cs with
  | [y0], [] => (dA y0).bind fun c0_ => (dCc c0_).bind fun p0 => G_bbr_Check cp n p0 (fun r0 => k ⟨(tL r0), []⟩)
  | _, _ => none
def ca_bbr_Timeout {R : Type} (cp : Nat → Nat → Bool) (n : Nat) (av : Fr) (cs : List Fr) (k : Ret2 RW → Option R) : Option R := match av, cs with
  | [y0, y1], [] => (dA y0).bind fun c0_ => (dCc c0_).bind fun p0 => (dI .i64 y1).bind fun p1 => G_bbr_Timeout cp n p0 p1 (fun r0 r1 => k ⟨.tup [.agg (eCc r0), (tL r1)], []⟩)
  | _, _ => none
def ca_ref15_Plain {R : Type} (cp : Nat → Nat → Bool) (n : Nat) (av : Fr) (cs : List Fr) (k : Ret2 RW → Option R) : Option R := match av, cs with
  | [y0, y1, y2], [] => (dA y0).bind fun c0_ => (dCc c0_).bind fun p0 => (dB y1).bind fun p1 => (dB y2).bind fun p2 => G_ref15_Plain cp n p0 p1 p2 (fun r0 => k ⟨(tB r0), []⟩)
  | _, _ => none
def ca_ref12_time {R : Type} (cp : Nat → Nat → Bool) (n : Nat) (av : Fr) (cs : List Fr) (k : Ret2 RW → Option R) : Option R := match av, cs with
  | [y0], [] => (dI .i64 y0).bind fun p0 => G_ref12_time cp n p0 (fun r0 => k ⟨(tB r0), []⟩)
  | _, _ => none
def ca_ref12_value {R : Type} (cp : Nat → Nat → Bool) (n : Nat) (av : Fr) (cs : List Fr) (k : Ret2 RW → Option R) : Option R := match av, cs with
  | [y0], [] => (dI .i64 y0).bind fun p0 => G_ref12_value cp n p0 (fun r0 => k ⟨(tB r0), []⟩)
  | _, _ => none
def ca_ref12_Check {R : Type} (cp : Nat → Nat → Bool) (n : Nat) (av : Fr) (cs : List Fr) (k : Ret2 RW → Option R) : Option R := match av, cs with
  | [y0, y1], [] => (dREntry false y0).bind fun p0 => (dB y1).bind fun p1 => G_ref12_Check cp n p0 p1 (fun r0 => k ⟨(tL r0), []⟩)
  | _, _ => none
def ca_ref18_time {R : Type} (cp : Nat → Nat → Bool) (n : Nat) (av : Fr) (cs : List Fr) (k : Ret2 RW → Option R) : Option R := match av, cs with
  | [y0], [] => (dI .i64 y0).bind fun p0 => G_ref18_time cp n p0 (fun r0 => k ⟨(tB r0), []⟩)
  | _, _ => none
def ca_ref15_Size {R : Type} (cp : Nat → Nat → Bool) (n : Nat) (av : Fr) (cs : List Fr) (k : Ret2 RW → Option R) : Option R := match av, cs with
  | [y0], [] => (dI .i64 y0).bind fun p0 => G_ref15_Size cp n p0 (fun r0 => k ⟨(tB r0), []⟩)
  | _, _ => none
def ca_ref18_Check {R : Type} (cp : Nat → Nat → Bool) (n : Nat) (av : Fr) (cs : List Fr) (k : Ret2 RW → Option R) : Option R := match av, cs with
  | [y0], [] => (dA y0).bind fun c0_ => (dCc c0_).bind fun p0 => G_ref18_Check cp n p0 (fun r0 => k ⟨(tL r0), []⟩)
  | _, _ => none
def ca_ref18_Timeout {R : Type} (cp : Nat → Nat → Bool) (n : Nat) (av : Fr) (cs : List Fr) (k : Ret2 RW → Option R) : Option R := match av, cs with
  | [y0, y1], [] => (dA y0).bind fun c0_ => (dCc c0_).bind fun p0 => (dI .i64 y1).bind fun p1 => G_ref18_Timeout cp n p0 p1 (fun r0 r1 => k ⟨.tup [.agg (eCc r0), (tL r1)], []⟩)
  | _, _ => none
def ca_reno_New {R : Type} (cp : Nat → Nat → Bool) (n : Nat) (av : Fr) (cs : List Fr) (k : Ret2 RW → Option R) : Option R := match av, cs with
  | [y0, y1], [] => (dI .i64 y0).bind fun p0 => (dI .i64 y1).bind fun p1 => G_reno_New cp n p0 p1 (fun r0 r1 => k ⟨.tup [.agg (eCc r0), (tL r1)], []⟩)
  | _, _ => none
def ca_bbr_New {R : Type} (cp : Nat → Nat → Bool) (n : Nat) (av : Fr) (cs : List Fr) (k : Ret2 RW → Option R) : Option R := match av, cs with
  | [y0, y1], [] => (dI .i64 y0).bind fun p0 => (dI .i64 y1).bind fun p1 => G_bbr_New cp n p0 p1 (fun r0 r1 => k ⟨.tup [.agg (eCc r0), (tL r1)], []⟩)
  | _, _ => none
def ca_ref15_New {R : Type} (cp : Nat → Nat → Bool) (n : Nat) (av : Fr) (cs : List Fr) (k : Ret2 RW → Option R) : Option R := match av, cs with
  | [y0, y1], [] => (dI .i64 y0).bind fun p0 => (dI .i64 y1).bind fun p1 => G_ref15_New cp n p0 p1 (fun r0 r1 => k ⟨.tup [.agg (eCc r0), (tL r1)], []⟩)
  | _, _ => none
def ca_ref18_New {R : Type} (cp : Nat → Nat → Bool) (n : Nat) (av : Fr) (cs : List Fr) (k : Ret2 RW → Option R) : Option R := match av, cs with
  | [y0, y1], [] => (dI .i64 y0).bind fun p0 => (dI .i64 y1).bind fun p1 => G_ref18_New cp n p0 p1 (fun r0 r1 => k ⟨.tup [.agg (eCc r0), (tL r1)], []⟩)
  | _, _ => none
def ca_ref15_Same {R : Type} (cp : Nat → Nat → Bool) (n : Nat) (av : Fr) (cs : List Fr) (k : Ret2 RW → Option R) : Option R := match av, cs with
  | [y0, y1], [] => (dA y0).bind fun c0_ => (dCc c0_).bind fun p0 => (dA y1).bind fun c1_ => (dCc c1_).bind fun p1 => G_ref15_Same cp n p0 p1 (fun r0 => k ⟨(tB r0), []⟩)
  | _, _ => none
def ca_bbr_ctl_round {R : Type} (cp : Nat → Nat → Bool) (n : Nat) (av : Fr) (cs : List Fr) (k : Ret2 RW → Option R) : Option R := match av, cs with
  | [y0, y1], [w0] => (dP 30 0 y0).bind fun _ => (dA y1).bind fun c1_ => (dSample c1_).bind fun p1 => (dctl w0).bind fun q0 => G_bbr_ctl_round cp n p1 q0 (fun r0 r1 => k ⟨(tB r0), [(ectl r1)]⟩)
  | _, _ => none
def ca_filter_Best {R : Type} (cp : Nat → Nat → Bool) (n : Nat) (av : Fr) (cs : List Fr) (k : Ret2 RW → Option R) : Option R := match av, cs with
  | [y0], [] => (dREntry false y0).bind fun p0 => G_filter_Best cp n p0 (fun r0 r1 => k ⟨.tup [(tL r0), (tB r1)], []⟩)
  | _, _ => none
def ca_bbr_ctl_bandwidth {R : Type} (cp : Nat → Nat → Bool) (n : Nat) (av : Fr) (cs : List Fr) (k : Ret2 RW → Option R) : Option R := match av, cs with
  | [y0], [w0] => (dP 15 0 y0).bind fun _ => (dctl w0).bind fun q0 => G_bbr_ctl_bandwidth cp n q0 (fun r0 r1 => k ⟨(tL r0), [(ectl r1)]⟩)
  | _, _ => none
def ca_filter_Put {R : Type} (cp : Nat → Nat → Bool) (n : Nat) (av : Fr) (cs : List Fr) (k : Ret2 RW → Option R) : Option R := match av, cs with
  | [y0, y1, y2, y3, y4], [] => (dREntry false y0).bind fun p0 => (dI .i64 y1).bind fun p1 => (dI .i64 y2).bind fun p2 => (dI .i64 y3).bind fun p3 => (dB y4).bind fun p4 => G_filter_Put cp n p0 p1 p2 p3 p4 (fun r0 r1 => k ⟨.tup [.row false (.rEntry r0), (tL r1)], []⟩)
  | _, _ => none
def ca_bbr_ctl_speed {R : Type} (cp : Nat → Nat → Bool) (n : Nat) (av : Fr) (cs : List Fr) (k : Ret2 RW → Option R) : Option R := match av, cs with
  | [y0, y1], [w0] => (dP 74 0 y0).bind fun _ => (dA y1).bind fun c1_ => (dSample c1_).bind fun p1 => (dctl w0).bind fun q0 => G_bbr_ctl_speed cp n p1 q0 (fun r0 => k ⟨.tup [], [(ectl r0)]⟩)
  | _, _ => none
def ca_bbr_ctl_shortest {R : Type} (cp : Nat → Nat → Bool) (n : Nat) (av : Fr) (cs : List Fr) (k : Ret2 RW → Option R) : Option R := match av, cs with
  | [y0, y1], [w0] => (dP 60 0 y0).bind fun _ => (dA y1).bind fun c1_ => (dSample c1_).bind fun p1 => (dctl w0).bind fun q0 => G_bbr_ctl_shortest cp n p1 q0 (fun r0 r1 => k ⟨(tB r0), [(ectl r1)]⟩)
  | _, _ => none
def ca_bbr_ctl_full {R : Type} (cp : Nat → Nat → Bool) (n : Nat) (av : Fr) (cs : List Fr) (k : Ret2 RW → Option R) : Option R := match av, cs with
  | [y0], [w0] => (dP 48 0 y0).bind fun _ => (dctl w0).bind fun q0 => G_bbr_ctl_full cp n q0 (fun r0 => k ⟨.tup [], [(ectl r0)]⟩)
  | _, _ => none
def ca_math_bits_Mul64 {R : Type} (cp : Nat → Nat → Bool) (n : Nat) (av : Fr) (cs : List Fr) (k : Ret2 RW → Option R) : Option R := match av, cs with
  | [y0, y1], [] => (dI .u64 y0).bind fun p0 => (dI .u64 y1).bind fun p1 => G_math_bits_Mul64 cp n p0 p1 (fun r0 r1 => k ⟨.tup [(tI .u64 r0), (tI .u64 r1)], []⟩)
  | _, _ => none
def ca_math_bits_Len64 {R : Type} (cp : Nat → Nat → Bool) (n : Nat) (av : Fr) (cs : List Fr) (k : Ret2 RW → Option R) : Option R := match av, cs with
  | [y0], [] => (dI .u64 y0).bind fun p0 => G_math_bits_Len64 cp n p0 (fun r0 => k ⟨(tL r0), []⟩)
  | _, _ => none
def ca_math_bits_LeadingZeros64 {R : Type} (cp : Nat → Nat → Bool) (n : Nat) (av : Fr) (cs : List Fr) (k : Ret2 RW → Option R) : Option R := match av, cs with
  | [y0], [] => (dI .u64 y0).bind fun p0 => G_math_bits_LeadingZeros64 cp n p0 (fun r0 => k ⟨(tL r0), []⟩)
  | _, _ => none
def ca_math_bits_Div64 {R : Type} (cp : Nat → Nat → Bool) (n : Nat) (av : Fr) (cs : List Fr) (k : Ret2 RW → Option R) : Option R := match av, cs with
  | [y0, y1, y2], [] => (dI .u64 y0).bind fun p0 => (dI .u64 y1).bind fun p1 => (dI .u64 y2).bind fun p2 => G_math_bits_Div64 cp n p0 p1 p2 (fun r0 r1 => k ⟨.tup [(tI .u64 r0), (tI .u64 r1)], []⟩)
  | _, _ => none
def ca_seq_MulDiv {R : Type} (cp : Nat → Nat → Bool) (n : Nat) (av : Fr) (cs : List Fr) (k : Ret2 RW → Option R) : Option R := match av, cs with
  | [y0, y1, y2], [] => (dI .i64 y0).bind fun p0 => (dI .i64 y1).bind fun p1 => (dI .i64 y2).bind fun p2 => G_seq_MulDiv cp n p0 p1 p2 (fun r0 r1 => k ⟨.tup [(tL r0), (tL r1)], []⟩)
  | _, _ => none
def ca_bbr_ctl_product {R : Type} (cp : Nat → Nat → Bool) (n : Nat) (av : Fr) (cs : List Fr) (k : Ret2 RW → Option R) : Option R := match av, cs with
  | [y0], [w0] => (dP 18 0 y0).bind fun _ => (dctl w0).bind fun q0 => G_bbr_ctl_product cp n q0 (fun r0 r1 => k ⟨(tL r0), [(ectl r1)]⟩)
  | _, _ => none
def ca_bbr_ctl_probe {R : Type} (cp : Nat → Nat → Bool) (n : Nat) (av : Fr) (cs : List Fr) (k : Ret2 RW → Option R) : Option R := match av, cs with
  | [y0, y1], [w0] => (dP 17 0 y0).bind fun _ => (dI .i64 y1).bind fun p1 => (dctl w0).bind fun q0 => G_bbr_ctl_probe cp n p1 q0 (fun r0 => k ⟨.tup [], [(ectl r0)]⟩)
  | _, _ => none
def ca_bbr_ctl_cycle {R : Type} (cp : Nat → Nat → Bool) (n : Nat) (av : Fr) (cs : List Fr) (k : Ret2 RW → Option R) : Option R := match av, cs with
  | [y0, y1], [w0] => (dP 62 0 y0).bind fun _ => (dA y1).bind fun c1_ => (dSample c1_).bind fun p1 => (dctl w0).bind fun q0 => G_bbr_ctl_cycle cp n p1 q0 (fun r0 => k ⟨.tup [], [(ectl r0)]⟩)
  | _, _ => none
def ca_bbr_ctl_ask {R : Type} (cp : Nat → Nat → Bool) (n : Nat) (av : Fr) (cs : List Fr) (k : Ret2 RW → Option R) : Option R := match av, cs with
  | [y0, y1, y2], [w0] => (dP 122 0 y0).bind fun _ => (dA y1).bind fun c1_ => (dSample c1_).bind fun p1 => (dB y2).bind fun p2 => (dctl w0).bind fun q0 => G_bbr_ctl_ask cp n p1 p2 q0 (fun r0 => k ⟨.tup [], [(ectl r0)]⟩)
  | _, _ => none
def ca_seq_Clamp {R : Type} (cp : Nat → Nat → Bool) (n : Nat) (av : Fr) (cs : List Fr) (k : Ret2 RW → Option R) : Option R := match av, cs with
  | [y0, y1, y2], [] => (dI .i64 y0).bind fun p0 => (dI .i64 y1).bind fun p1 => (dI .i64 y2).bind fun p2 => G_seq_Clamp cp n p0 p1 p2 (fun r0 => k ⟨(tL r0), []⟩)
  | _, _ => none
def ca_bbr_ctl_window {R : Type} (cp : Nat → Nat → Bool) (n : Nat) (av : Fr) (cs : List Fr) (k : Ret2 RW → Option R) : Option R := match av, cs with
  | [y0, y1], [w0] => (dP 73 0 y0).bind fun _ => (dA y1).bind fun c1_ => (dSample c1_).bind fun p1 => (dctl w0).bind fun q0 => G_bbr_ctl_window cp n p1 q0 (fun r0 => k ⟨.tup [], [(ectl r0)]⟩)
  | _, _ => none
def ca_bbr_Acked {R : Type} (cp : Nat → Nat → Bool) (n : Nat) (av : Fr) (cs : List Fr) (k : Ret2 RW → Option R) : Option R := match av, cs with
  | [y0, y1], [] => (dA y0).bind fun c0_ => (dCc c0_).bind fun p0 => (dA y1).bind fun c1_ => (dSample c1_).bind fun p1 => G_bbr_Acked cp n p0 p1 (fun r0 r1 => k ⟨.tup [.agg (eCc r0), (tL r1)], []⟩)
  | _, _ => none
def ca_bbr_Bandwidth {R : Type} (cp : Nat → Nat → Bool) (n : Nat) (av : Fr) (cs : List Fr) (k : Ret2 RW → Option R) : Option R := match av, cs with
  | [y0], [] => (dA y0).bind fun c0_ => (dCc c0_).bind fun p0 => G_bbr_Bandwidth cp n p0 (fun r0 => k ⟨(tL r0), []⟩)
  | _, _ => none
def ca_bbr_Product {R : Type} (cp : Nat → Nat → Bool) (n : Nat) (av : Fr) (cs : List Fr) (k : Ret2 RW → Option R) : Option R := match av, cs with
  | [y0], [] => (dA y0).bind fun c0_ => (dCc c0_).bind fun p0 => G_bbr_Product cp n p0 (fun r0 => k ⟨(tL r0), []⟩)
  | _, _ => none
def ca_bbr_Gain {R : Type} (cp : Nat → Nat → Bool) (n : Nat) (av : Fr) (cs : List Fr) (k : Ret2 RW → Option R) : Option R := match av, cs with
  | [y0], [] => (dA y0).bind fun c0_ => (dCc c0_).bind fun p0 => G_bbr_Gain cp n p0 (fun r0 => k ⟨(tL r0), []⟩)
  | _, _ => none
def ca_law18_heads {R : Type} (cp : Nat → Nat → Bool) (n : Nat) (av : Fr) (cs : List Fr) (k : Ret2 RW → Option R) : Option R := match av, cs with
  | [], [] => G_law18_heads cp n (fun r0 => k ⟨(tB r0), []⟩)
  | _, _ => none
def ca_law18_BbrFalls {R : Type} (cp : Nat → Nat → Bool) (n : Nat) (av : Fr) (cs : List Fr) (k : Ret2 RW → Option R) : Option R := match av, cs with
  | [y0, y1, y2], [] => (dA y0).bind fun c0_ => (dCc c0_).bind fun p0 => (dI .i64 y1).bind fun p1 => (dI .i64 y2).bind fun p2 => G_law18_BbrFalls cp n p0 p1 p2 (fun r0 => k ⟨(tB r0), []⟩)
  | _, _ => none
def callP {R : Type} (cp : Nat → Nat → Bool) (n : Nat) (id : Nat) (av : Fr) (cs : List Fr) (k : Ret2 RW → Option R) : Option R := match id with
  | 17 => ca_bbr_within cp n av cs k
  | 44 => ca_filter_may cp n av cs k
  | 45 => ca_filter_beats cp n av cs k
  | 36 => ca_filter_Check cp n av cs k
  | 1004 => ca_bbr_ctl_entries cp n av cs k
  | 12 => ca_bbr_Check cp n av cs k
  | 7 => ca_bbr_Timeout cp n av cs k
  | 33 => ca_ref15_Plain cp n av cs k
  | 42 => ca_ref12_time cp n av cs k
  | 43 => ca_ref12_value cp n av cs k
  | 34 => ca_ref12_Check cp n av cs k
  | 35 => ca_ref18_time cp n av cs k
  | 19 => ca_ref15_Size cp n av cs k
  | 18 => ca_ref18_Check cp n av cs k
  | 8 => ca_ref18_Timeout cp n av cs k
  | 20 => ca_reno_New cp n av cs k
  | 9 => ca_bbr_New cp n av cs k
  | 21 => ca_ref15_New cp n av cs k
  | 10 => ca_ref18_New cp n av cs k
  | 11 => ca_ref15_Same cp n av cs k
  | 1023 => ca_bbr_ctl_round cp n av cs k
  | 40 => ca_filter_Best cp n av cs k
  | 1025 => ca_bbr_ctl_bandwidth cp n av cs k
  | 37 => ca_filter_Put cp n av cs k
  | 1024 => ca_bbr_ctl_speed cp n av cs k
  | 1028 => ca_bbr_ctl_shortest cp n av cs k
  | 1029 => ca_bbr_ctl_full cp n av cs k
  | 46 => ca_math_bits_Mul64 cp n av cs k
  | 49 => ca_math_bits_Len64 cp n av cs k
  | 48 => ca_math_bits_LeadingZeros64 cp n av cs k
  | 47 => ca_math_bits_Div64 cp n av cs k
  | 41 => ca_seq_MulDiv cp n av cs k
  | 1031 => ca_bbr_ctl_product cp n av cs k
  | 1037 => ca_bbr_ctl_probe cp n av cs k
  | 1030 => ca_bbr_ctl_cycle cp n av cs k
  | 1038 => ca_bbr_ctl_ask cp n av cs k
  | 39 => ca_seq_Clamp cp n av cs k
  | 1039 => ca_bbr_ctl_window cp n av cs k
  | 14 => ca_bbr_Acked cp n av cs k
  | 15 => ca_bbr_Bandwidth cp n av cs k
  | 16 => ca_bbr_Product cp n av cs k
  | 23 => ca_bbr_Gain cp n av cs k
  | 13 => ca_law18_heads cp n av cs k
  | 3 => ca_law18_BbrFalls cp n av cs k
  | _ => none
end
end Go.Proofs.Ytgadpgeghlhpnaa.M
