/- The values of the program's functions, and the functions, plain. -/
import Derived.Test.YtfdopmobhphdbaaMachX
set_option maxRecDepth 100000
set_option linter.unusedVariables false
namespace Go.Proofs.Ytfdopmobhphdbaa.M
open Go
noncomputable section
structure SAsked where
  xUna : Int
  xNext : Int
  xIss : Int
  xPeer : Int
  xIrs : Int
  xStamps : Bool
  xRecent : Int
  xNow : Int
  xSacks : Bool
def zAsked : SAsked := ⟨0, 0, 0, 0, 0, false, 0, 0, false⟩
structure SBlock where
  xFrom : Int
  xTo : Int
def zBlock : SBlock := ⟨0, 0⟩
def zuint8 : Int := 0
structure SSegment where
  xSrcPort : Int
  xDstPort : Int
  xSeq : Int
  xAck : Int
  xFlags : Int
  xWin : Int
  xUrg : Int
  xMss : Int
  xScale : Int
  xSackOk : Bool
  xStamped : Bool
  xVal : Int
  xEcr : Int
  xSacks : (List SBlock)
  xData : (List Int)
def zSegment : SSegment := ⟨0, 0, 0, 0, 0, 0, 0, 0, 0, false, false, 0, 0, [], []⟩
structure SSpan where
  xFrom : Int
  xTo : Int
def zSpan : SSpan := ⟨0, 0⟩
structure SHeard where
  xCounts : Bool
  xAck : Int
  xOld : Bool
  xAt : Int
  xWin : Int
  xRecent : Int
  xRtt : Int
  xTwice : Bool
  xSpans : (List SSpan)
def zHeard : SHeard := ⟨false, 0, false, 0, 0, 0, 0, false, []⟩
inductive RW where
  | rBlock (xs : List SBlock)
  | ruint8 (xs : List Int)
  | rSpan (xs : List SSpan)

abbrev Fr := List (TV RW)
def tI (k : IntKind) (n : Int) : TV RW := .sc (.int k n)
def tL (n : Int) : TV RW := .sc (.int .i64 n)
def tB (b : Bool) : TV RW := .sc (.bool b)
def dT : Nat → Fr → Fr
  | 0, l => l
  | n + 1, l => .dead :: dT n l
def eAsked (x : SAsked) : List (TV RW) := [(tL x.xUna), (tL x.xNext), (tI .u32 x.xIss), (tL x.xPeer), (tI .u32 x.xIrs), (tB x.xStamps), (tI .u32 x.xRecent), (tI .u32 x.xNow), (tB x.xSacks)]
def eSegment (x : SSegment) : List (TV RW) := [(tL x.xSrcPort), (tL x.xDstPort), (tI .u32 x.xSeq), (tI .u32 x.xAck), (tL x.xFlags), (tL x.xWin), (tL x.xUrg), (tL x.xMss), (tL x.xScale), (tB x.xSackOk), (tB x.xStamped), (tI .u32 x.xVal), (tI .u32 x.xEcr), .row false (.rBlock x.xSacks), .row false (.ruint8 x.xData)]
def eSegmentt (x : SSegment) : List (TV RW) := [(tL x.xSrcPort), (tL x.xDstPort), (tI .u32 x.xSeq), (tI .u32 x.xAck), (tL x.xFlags), (tL x.xWin), (tL x.xUrg), (tL x.xMss), (tL x.xScale), (tB x.xSackOk), (tB x.xStamped), (tI .u32 x.xVal), (tI .u32 x.xEcr), .row true (.rBlock x.xSacks), .row true (.ruint8 x.xData)]
def eBlock (x : SBlock) : List (TV RW) := [(tI .u32 x.xFrom), (tI .u32 x.xTo)]
def eHeard (x : SHeard) : List (TV RW) := [(tB x.xCounts), (tL x.xAck), (tB x.xOld), (tL x.xAt), (tL x.xWin), (tI .u32 x.xRecent), (tL x.xRtt), (tB x.xTwice), .row false (.rSpan x.xSpans)]
def eHeardt (x : SHeard) : List (TV RW) := [(tB x.xCounts), (tL x.xAck), (tB x.xOld), (tL x.xAt), (tL x.xWin), (tI .u32 x.xRecent), (tL x.xRtt), (tB x.xTwice), .row true (.rSpan x.xSpans)]
def eSpan (x : SSpan) : List (TV RW) := [(tL x.xFrom), (tL x.xTo)]
def euint8 (x : Int) : List (TV RW) := [(tI .u8 x)]
def cBlock (x : SBlock) : List AV := [.sc (.int .u32 x.xFrom), .sc (.int .u32 x.xTo)]
def cuint8 (x : Int) : List AV := [.sc (.int .u8 x)]
def cSpan (x : SSpan) : List AV := [.sc (.int .i64 x.xFrom), .sc (.int .i64 x.xTo)]
def dOne : Fr → Option (TV RW)
  | [x] => some x
  | _ => none
def dI (kd : IntKind) : TV RW → Option Int
  | .sc (.int k a) => cond (decide (k = kd)) (some a) none
  | _ => none
def dB : TV RW → Option Bool
  | .sc (.bool b) => some b
  | _ => none
def dS : TV RW → Option ByteArray
  | .sc (.string b) => some b
  | _ => none
def dA : TV RW → Option Fr
  | .agg cs => some cs
  | _ => none
def dP (h j : Nat) : TV RW → Option Unit
  | .ptr a b => cond (Nat.beq a h && Nat.beq b j) (some ()) none
  | _ => none
def dC (f : Nat) (cs : List (Nat × Nat)) : TV RW → Option Unit
  | .clo a b => cond (Nat.beq a f && decide (b = cs)) (some ()) none
  | _ => none
def dRBlock (fl : Bool) : TV RW → Option (List SBlock)
  | .row a (.rBlock xs) => cond (a == fl) (some xs) none
  | _ => none
def dRuint8 (fl : Bool) : TV RW → Option (List Int)
  | .row a (.ruint8 xs) => cond (a == fl) (some xs) none
  | _ => none
def dRSpan (fl : Bool) : TV RW → Option (List SSpan)
  | .row a (.rSpan xs) => cond (a == fl) (some xs) none
  | _ => none
def dAsked : Fr → Option SAsked
  | [y0, y1, y2, y3, y4, y5, y6, y7, y8] => (dI .i64 y0).bind fun a0 => (dI .i64 y1).bind fun a1 => (dI .u32 y2).bind fun a2 => (dI .i64 y3).bind fun a3 => (dI .u32 y4).bind fun a4 => (dB y5).bind fun a5 => (dI .u32 y6).bind fun a6 => (dI .u32 y7).bind fun a7 => (dB y8).bind fun a8 => some ⟨a0, a1, a2, a3, a4, a5, a6, a7, a8⟩
  | _ => none
def dSegment : Fr → Option SSegment
  | [y0, y1, y2, y3, y4, y5, y6, y7, y8, y9, y10, y11, y12, y13, y14] => (dI .i64 y0).bind fun a0 => (dI .i64 y1).bind fun a1 => (dI .u32 y2).bind fun a2 => (dI .u32 y3).bind fun a3 => (dI .i64 y4).bind fun a4 => (dI .i64 y5).bind fun a5 => (dI .i64 y6).bind fun a6 => (dI .i64 y7).bind fun a7 => (dI .i64 y8).bind fun a8 => (dB y9).bind fun a9 => (dB y10).bind fun a10 => (dI .u32 y11).bind fun a11 => (dI .u32 y12).bind fun a12 => (dRBlock false y13).bind fun a13 => (dRuint8 false y14).bind fun a14 => some ⟨a0, a1, a2, a3, a4, a5, a6, a7, a8, a9, a10, a11, a12, a13, a14⟩
  | _ => none
def dSegmentt : Fr → Option SSegment
  | [y0, y1, y2, y3, y4, y5, y6, y7, y8, y9, y10, y11, y12, y13, y14] => (dI .i64 y0).bind fun a0 => (dI .i64 y1).bind fun a1 => (dI .u32 y2).bind fun a2 => (dI .u32 y3).bind fun a3 => (dI .i64 y4).bind fun a4 => (dI .i64 y5).bind fun a5 => (dI .i64 y6).bind fun a6 => (dI .i64 y7).bind fun a7 => (dI .i64 y8).bind fun a8 => (dB y9).bind fun a9 => (dB y10).bind fun a10 => (dI .u32 y11).bind fun a11 => (dI .u32 y12).bind fun a12 => (dRBlock true y13).bind fun a13 => (dRuint8 true y14).bind fun a14 => some ⟨a0, a1, a2, a3, a4, a5, a6, a7, a8, a9, a10, a11, a12, a13, a14⟩
  | _ => none
def dBlock : Fr → Option SBlock
  | [y0, y1] => (dI .u32 y0).bind fun a0 => (dI .u32 y1).bind fun a1 => some ⟨a0, a1⟩
  | _ => none
def dHeard : Fr → Option SHeard
  | [y0, y1, y2, y3, y4, y5, y6, y7, y8] => (dB y0).bind fun a0 => (dI .i64 y1).bind fun a1 => (dB y2).bind fun a2 => (dI .i64 y3).bind fun a3 => (dI .i64 y4).bind fun a4 => (dI .u32 y5).bind fun a5 => (dI .i64 y6).bind fun a6 => (dB y7).bind fun a7 => (dRSpan false y8).bind fun a8 => some ⟨a0, a1, a2, a3, a4, a5, a6, a7, a8⟩
  | _ => none
def dHeardt : Fr → Option SHeard
  | [y0, y1, y2, y3, y4, y5, y6, y7, y8] => (dB y0).bind fun a0 => (dI .i64 y1).bind fun a1 => (dB y2).bind fun a2 => (dI .i64 y3).bind fun a3 => (dI .i64 y4).bind fun a4 => (dI .u32 y5).bind fun a5 => (dI .i64 y6).bind fun a6 => (dB y7).bind fun a7 => (dRSpan true y8).bind fun a8 => some ⟨a0, a1, a2, a3, a4, a5, a6, a7, a8⟩
  | _ => none
def dSpan : Fr → Option SSpan
  | [y0, y1] => (dI .i64 y0).bind fun a0 => (dI .i64 y1).bind fun a1 => some ⟨a0, a1⟩
  | _ => none
def pBlock_ : Fr → Option (List SBlock)
  | [] => some []
  | y0 :: y1 :: r => (dI .u32 y0).bind fun a0 => (dI .u32 y1).bind fun a1 => (pBlock_ r).bind fun xs => some (⟨a0, a1⟩ :: xs)
  | _ => none

def puint8_ : Fr → Option (List Int)
  | [] => some []
  | y0 :: r => (dI .u8 y0).bind fun a0 => (puint8_ r).bind fun xs => some (a0 :: xs)

def pSpan_ : Fr → Option (List SSpan)
  | [] => some []
  | y0 :: y1 :: r => (dI .i64 y0).bind fun a0 => (dI .i64 y1).bind fun a1 => (pSpan_ r).bind fun xs => some (⟨a0, a1⟩ :: xs)
  | _ => none

def U : Uni RW where
  sz := fun r => match r with
    | .rBlock xs => 2
    | .ruint8 xs => 1
    | .rSpan xs => 2
  len := fun r => match r with
    | .rBlock xs => xs.length
    | .ruint8 xs => xs.length
    | .rSpan xs => xs.length
  getA := fun r => match r with
    | .rBlock xs => rg cBlock zBlock xs
    | .ruint8 xs => rg cuint8 zuint8 xs
    | .rSpan xs => rg cSpan zSpan xs
  get := fun r i => match r with
    | .rBlock xs => eBlock (xs.getD i zBlock)
    | .ruint8 xs => euint8 (xs.getD i zuint8)
    | .rSpan xs => eSpan (xs.getD i zSpan)
  app := fun r q => match r with
    | .rBlock xs => (match q with
      | .rBlock ys => some (.rBlock (xs ++ ys))
      | _ => none)
    | .ruint8 xs => (match q with
      | .ruint8 ys => some (.ruint8 (xs ++ ys))
      | _ => none)
    | .rSpan xs => (match q with
      | .rSpan ys => some (.rSpan (xs ++ ys))
      | _ => none)
  sub := fun lo n r => match r with
    | .rBlock xs => .rBlock (List.take n (xs.drop lo))
    | .ruint8 xs => .ruint8 (List.take n (xs.drop lo))
    | .rSpan xs => .rSpan (List.take n (xs.drop lo))
  szt := fun t => match t with
    | 41 => 2
    | 5 => 1
    | 39 => 2
    | _ => 0
  zt := fun t => match t with
    | 41 => eBlock zBlock
    | 5 => euint8 zuint8
    | 39 => eSpan zSpan
    | _ => []
  lit := fun t n L => match t with
    | 41 => (pBlock_ L).bind fun xs => cond (Nat.beq xs.length n) (some (.rBlock xs)) none
    | 5 => (puint8_ L).bind fun xs => cond (Nat.beq xs.length n) (some (.ruint8 xs)) none
    | 39 => (pSpan_ L).bind fun xs => cond (Nat.beq xs.length n) (some (.rSpan xs)) none
    | _ => none
/-! tideway/seq.Diff -/
def G_seq_Diff {R : Type} (cp : Nat → Nat → Bool) : Nat → Int → Int → (Int → Option R) → Option R
  | 0, _, _, _ => none
  | n + 1, p0, p1, k =>
    k (wr .i64 (wr .i32 (wr .u32 (p1 - p0))))
/-! tideway/seq.Sum -/
def G_seq_Sum {R : Type} (cp : Nat → Nat → Bool) : Nat → Int → Int → (Int → Option R) → Option R
  | 0, _, _, _ => none
  | n + 1, p0, p1, k =>
    cond (decide (0 < p0)) (cond (decide (0 < p1)) (cond (decide ((wr .i64 (p0 + p1)) < 0)) (k 9223372036854775807) (cond (decide (p0 < 0)) (cond (decide (p1 < 0)) (cond (decide (0 ≤ (wr .i64 (p0 + p1)))) (k (-9223372036854775808)) (k (wr .i64 (p0 + p1)))) (k (wr .i64 (p0 + p1)))) (k (wr .i64 (p0 + p1))))) (cond (decide (p0 < 0)) (cond (decide (p1 < 0)) (cond (decide (0 ≤ (wr .i64 (p0 + p1)))) (k (-9223372036854775808)) (k (wr .i64 (p0 + p1)))) (k (wr .i64 (p0 + p1)))) (k (wr .i64 (p0 + p1))))) (cond (decide (p0 < 0)) (cond (decide (p1 < 0)) (cond (decide (0 ≤ (wr .i64 (p0 + p1)))) (k (-9223372036854775808)) (k (wr .i64 (p0 + p1)))) (k (wr .i64 (p0 + p1)))) (k (wr .i64 (p0 + p1))))
/-! tideway/seq.Unwrap -/
def G_seq_Unwrap {R : Type} (cp : Nat → Nat → Bool) : Nat → Int → Int → (Int → Option R) → Option R
  | 0, _, _, _ => none
  | n + 1, p0, p1, k =>
    G_seq_Diff cp n (wr .u32 p0) p1 (fun r2 => G_seq_Sum cp n p0 r2 (fun r3 => k r3))
/-! tideway/ack.counts -/
def G_ack_counts {R : Type} (cp : Nat → Nat → Bool) : Nat → SAsked → SSegment → (Int → Bool → Option R) → Option R
  | 0, _, _, _ => none
  | n + 1, p0, p1, k =>
    cond (decide (p0.xUna < 0)) (k 0 false) (cond (decide (p0.xNext < p0.xUna)) (k 0 false) (cond (decide (1125899906842625 < p0.xNext)) (k 0 false) (cond (!decide ((bits .and .i64 p1.xFlags 22) = 16)) (k 0 false) (cond (p0.xStamps) (cond (!p1.xStamped) (k 0 false) (G_seq_Diff cp n p0.xRecent p1.xVal (fun r1 => cond (decide (r1 < 0)) (k 0 false) (G_seq_Unwrap cp n p0.xUna (wr .u32 (p1.xAck - p0.xIss)) (fun r4 => G_seq_Unwrap cp n p0.xPeer (wr .u32 (p1.xSeq - p0.xIrs)) (fun r5 => cond (decide (r5 = p0.xPeer)) (cond (decide (0 ≤ r4)) (k r4 (decide (r4 ≤ p0.xNext))) (k r4 false)) (k r4 false))))))) (G_seq_Unwrap cp n p0.xUna (wr .u32 (p1.xAck - p0.xIss)) (fun r6 => G_seq_Unwrap cp n p0.xPeer (wr .u32 (p1.xSeq - p0.xIrs)) (fun r7 => cond (decide (r7 = p0.xPeer)) (cond (decide (0 ≤ r6)) (k r6 (decide (r6 ≤ p0.xNext))) (k r6 false)) (k r6 false))))))))
/-! tideway/ack.Weigh$1 -/
def G_ack_Weigh_1 {R : Type} (cp : Nat → Nat → Bool) : Nat → Int → SAsked → (Int → SAsked → Option R) → Option R
  | 0, _, _, _ => none
  | n + 1, p0, q0, k =>
    G_seq_Unwrap cp n q0.xUna (wr .u32 (p0 - q0.xIss)) (fun r18 => k r18 q0)
/-! tideway/ack.offsets -/
def s_ack_offsets_1 {R : Type} (cp : Nat → Nat → Bool) (n : Nat) (p0 : (List SBlock)) (q0 : SAsked) (kn : Option R) : Option R :=
  kn
def s_ack_offsets_3 {R : Type} (cp : Nat → Nat → Bool) (n : Nat) (p0 : (List SBlock)) (q0 : SAsked) (kn : Option R) : Option R :=
  kn
def s_ack_offsets_5 {R : Type} (cp : Nat → Nat → Bool) (n : Nat) (p0 : (List SBlock)) (q0 : SAsked) (kn : Int → Option R) : Option R :=
  kn (p0.length : Int)
def s_ack_offsets_7 {R : Type} (cp : Nat → Nat → Bool) (n : Nat) (p0 : (List SBlock)) (v17 : Int) (v18 : (List SSpan)) (v19 v20 v21 v22 v23 v24 : Int) (v25 : Bool) (v26 v27 : Int) (v28 : Bool) (kn : (List SSpan) → Int → Int → Int → Int → Int → Int → Bool → Int → Int → Bool → Option R) (ke0 : Option R) : Option R :=
  cond (decide (v19 < v17)) (cond (decide (0 ≤ v19)) (cond (decide (v19 < (p0.length : Int))) (G_ack_Weigh_1 cp n ((p0.getD (Int.toNat v19) zBlock).xFrom) (SAsked.mk v20 v21 v22 v23 v24 v25 v26 v27 v28) (fun r29 r30 => G_ack_Weigh_1 cp n ((p0.getD (Int.toNat v19) zBlock).xTo) r30 (fun r31 r32 => cond (cp (v18.length + [(SSpan.mk r29 r31)].length) 16) (kn (v18 ++ [(SSpan.mk r29 r31)]) (wr .i64 (v19 + 1)) r32.xUna r32.xNext r32.xIss r32.xPeer r32.xIrs r32.xStamps r32.xRecent r32.xNow r32.xSacks) (none)))) (none)) (none)) (ke0)
def l_ack_offsets_12 {R : Type} (cp : Nat → Nat → Bool) (n : Nat) : Nat → (List SBlock) → Int → (List SSpan) → Int → Int → Int → Int → Int → Int → Bool → Int → Int → Bool → ((List SSpan) → Int → Int → Int → Int → Int → Bool → Int → Int → Bool → Option R) → Option R
  | 0, _, _, _, _, _, _, _, _, _, _, _, _, _, _ => none
  | m + 1, p0, v17, v18, v19, v20, v21, v22, v23, v24, v25, v26, v27, v28, ke0 =>
    s_ack_offsets_7 cp n p0 v17 v18 v19 v20 v21 v22 v23 v24 v25 v26 v27 v28 (fun v33 v34 v35 v36 v37 v38 v39 v40 v41 v42 v43 => l_ack_offsets_12 cp n m p0 v17 v33 v34 v35 v36 v37 v38 v39 v40 v41 v42 v43 ke0) (ke0 v18 v20 v21 v22 v23 v24 v25 v26 v27 v28)
def s_ack_offsets_13 {R : Type} (cp : Nat → Nat → Bool) (n : Nat) (p0 : (List SBlock)) (q0 : SAsked) (v17 : Int) (ke0 : (List SSpan) → Int → Int → Int → Int → Int → Bool → Int → Int → Bool → Option R) : Option R :=
  l_ack_offsets_12 cp n n p0 v17 [] 0 q0.xUna q0.xNext q0.xIss q0.xPeer q0.xIrs q0.xStamps q0.xRecent q0.xNow q0.xSacks ke0
def s_ack_offsets_15 {R : Type} (cp : Nat → Nat → Bool) (n : Nat) (p0 : (List SBlock)) (q0 : SAsked) (v17 : Int) (kn : (List SSpan) → Int → Int → Int → Int → Int → Bool → Int → Int → Bool → Option R) : Option R :=
  s_ack_offsets_13 cp n p0 q0 v17 (fun v44 v45 v46 v47 v48 v49 v50 v51 v52 v53 => (kn v44 v45 v46 v47 v48 v49 v50 v51 v52 v53))
def s_ack_offsets_17 {R : Type} (cp : Nat → Nat → Bool) (n : Nat) (p0 : (List SBlock)) (q0 : SAsked) (kn : (List SSpan) → Int → Int → Int → Int → Int → Bool → Int → Int → Bool → Option R) : Option R :=
  s_ack_offsets_5 cp n p0 q0 (fun v17 => s_ack_offsets_15 cp n p0 q0 v17 (fun v54 v55 v56 v57 v58 v59 v60 v61 v62 v63 => (kn v54 v55 v56 v57 v58 v59 v60 v61 v62 v63)))
def s_ack_offsets_18 {R : Type} (cp : Nat → Nat → Bool) (n : Nat) (v64 : (List SSpan)) (v65 v66 v67 v68 v69 : Int) (v70 : Bool) (v71 v72 : Int) (v73 : Bool) (kr : Option R) : Option R :=
  kr
def s_ack_offsets_21 {R : Type} (cp : Nat → Nat → Bool) (n : Nat) (p0 : (List SBlock)) (q0 : SAsked) (kr : (List SSpan) → Int → Int → Int → Int → Int → Bool → Int → Int → Bool → Option R) : Option R :=
  s_ack_offsets_17 cp n p0 q0 (fun v64 v65 v66 v67 v68 v69 v70 v71 v72 v73 => s_ack_offsets_18 cp n v64 v65 v66 v67 v68 v69 v70 v71 v72 v73 (kr v64 v65 v66 v67 v68 v69 v70 v71 v72 v73))
def s_ack_offsets_23 {R : Type} (cp : Nat → Nat → Bool) (n : Nat) (p0 : (List SBlock)) (q0 : SAsked) (kr : (List SSpan) → Int → Int → Int → Int → Int → Bool → Int → Int → Bool → Option R) : Option R :=
  s_ack_offsets_3 cp n p0 q0 (s_ack_offsets_21 cp n p0 q0 (fun v74 v75 v76 v77 v78 v79 v80 v81 v82 v83 => (kr v74 v75 v76 v77 v78 v79 v80 v81 v82 v83)))
def s_ack_offsets_25 {R : Type} (cp : Nat → Nat → Bool) (n : Nat) (p0 : (List SBlock)) (q0 : SAsked) (kr : (List SSpan) → Int → Int → Int → Int → Int → Bool → Int → Int → Bool → Option R) : Option R :=
  s_ack_offsets_1 cp n p0 q0 (s_ack_offsets_23 cp n p0 q0 (fun v84 v85 v86 v87 v88 v89 v90 v91 v92 v93 => (kr v84 v85 v86 v87 v88 v89 v90 v91 v92 v93)))
def G_ack_offsets {R : Type} (cp : Nat → Nat → Bool) : Nat → (List SBlock) → SAsked → ((List SSpan) → SAsked → Option R) → Option R
  | 0, _, _, _ => none
  | n + 1, p0, q0, k =>
    s_ack_offsets_25 cp n p0 q0 (fun v94 v95 v96 v97 v98 v99 v100 v101 v102 v103 => k v94 (SAsked.mk v95 v96 v97 v98 v99 v100 v101 v102 v103))
/-! tideway/ack.twice -/
def G_ack_twice {R : Type} (cp : Nat → Nat → Bool) : Nat → (List SSpan) → Int → (Bool → Option R) → Option R
  | 0, _, _, _ => none
  | n + 1, p0, p1, k =>
    cond (decide ((p0.length : Int) = 0)) (k false) (cond (decide (0 < (p0.length : Int))) (cond (decide (0 < (p0.length : Int))) (cond (decide (((p0.getD 0 zSpan).xTo) ≤ ((p0.getD 0 zSpan).xFrom))) (k false) (cond (decide (0 < (p0.length : Int))) (cond (decide (((p0.getD 0 zSpan).xTo) ≤ p1)) (k true) (cond (decide (1 < (p0.length : Int))) (cond (decide (1 < (p0.length : Int))) (cond (decide (0 < (p0.length : Int))) (cond (decide (((p0.getD 1 zSpan).xFrom) ≤ ((p0.getD 0 zSpan).xFrom))) (cond (decide (0 < (p0.length : Int))) (cond (decide (1 < (p0.length : Int))) (k (decide (((p0.getD 0 zSpan).xTo) ≤ ((p0.getD 1 zSpan).xTo)))) (none)) (none)) (k false)) (none)) (none)) (k false))) (none))) (none)) (none))
/-! tideway/span.may -/
def G_span_may {R : Type} (cp : Nat → Nat → Bool) : Nat → SSpan → (Bool → Option R) → Option R
  | 0, _, _ => none
  | n + 1, p0, k =>
    cond (decide (0 ≤ p0.xFrom)) (cond (decide (p0.xFrom ≤ p0.xTo)) (k (decide (p0.xTo ≤ 1125899906842624))) (k false)) (k false)
/-! tideway/span.Check -/
def s_span_Check_1 {R : Type} (cp : Nat → Nat → Bool) (n : Nat) (p0 : (List SSpan)) (kn : Option R) : Option R :=
  kn
def s_span_Check_3 {R : Type} (cp : Nat → Nat → Bool) (n : Nat) (p0 : (List SSpan)) (kn : Int → Option R) : Option R :=
  kn (p0.length : Int)
def s_span_Check_5 {R : Type} (cp : Nat → Nat → Bool) (n : Nat) (p0 : (List SSpan)) (v119 v120 : Int) (kn : Int → Option R) (kr : Option R) (ke0 : Option R) : Option R :=
  cond (decide (v120 < v119)) (cond (decide (0 ≤ v120)) (cond (decide (v120 < (p0.length : Int))) (G_span_may cp n (p0.getD (Int.toNat v120) zSpan) (fun r121 => cond (!r121) (kr) (cond (decide (((p0.getD (Int.toNat v120) zSpan).xFrom) = ((p0.getD (Int.toNat v120) zSpan).xTo))) (kr) (cond (decide (0 < v120)) (cond (decide (0 ≤ wr .i64 (v120 - 1))) (cond (decide (wr .i64 (v120 - 1) < (p0.length : Int))) (cond (decide (((p0.getD (Int.toNat v120) zSpan).xFrom) ≤ ((p0.getD (Int.toNat (wr .i64 (v120 - 1))) zSpan).xTo))) (kr) (kn (wr .i64 (v120 + 1)))) (none)) (none)) (kn (wr .i64 (v120 + 1))))))) (none)) (none)) (ke0)
def l_span_Check_10 {R : Type} (cp : Nat → Nat → Bool) (n : Nat) : Nat → (List SSpan) → Int → Int → (Option R) → (Option R) → Option R
  | 0, _, _, _, _, _ => none
  | m + 1, p0, v119, v120, kr, ke0 =>
    s_span_Check_5 cp n p0 v119 v120 (fun v122 => l_span_Check_10 cp n m p0 v119 v122 kr ke0) kr ke0
def s_span_Check_11 {R : Type} (cp : Nat → Nat → Bool) (n : Nat) (p0 : (List SSpan)) (v119 : Int) (kr : Option R) (ke0 : Option R) : Option R :=
  l_span_Check_10 cp n n p0 v119 0 kr ke0
def s_span_Check_12 {R : Type} (cp : Nat → Nat → Bool) (n : Nat) (p0 : (List SSpan)) (v119 : Int) (kn : Option R) (kr : Option R) : Option R :=
  s_span_Check_11 cp n p0 v119 kr kn
def s_span_Check_13 {R : Type} (cp : Nat → Nat → Bool) (n : Nat) (p0 : (List SSpan)) (kn : Option R) (kr : Option R) : Option R :=
  s_span_Check_3 cp n p0 (fun v119 => s_span_Check_12 cp n p0 v119 kn kr)
def s_span_Check_14 {R : Type} (cp : Nat → Nat → Bool) (n : Nat) (kr : Option R) : Option R :=
  kr
def s_span_Check_17 {R : Type} (cp : Nat → Nat → Bool) (n : Nat) (p0 : (List SSpan)) (kr : Int → Option R) : Option R :=
  s_span_Check_13 cp n p0 (s_span_Check_14 cp n (kr 0)) (kr 60)
def s_span_Check_19 {R : Type} (cp : Nat → Nat → Bool) (n : Nat) (p0 : (List SSpan)) (kr : Int → Option R) : Option R :=
  s_span_Check_1 cp n p0 (s_span_Check_17 cp n p0 (fun v123 => (kr v123)))
def G_span_Check {R : Type} (cp : Nat → Nat → Bool) : Nat → (List SSpan) → (Int → Option R) → Option R
  | 0, _, _ => none
  | n + 1, p0, k =>
    s_span_Check_19 cp n p0 (fun v124 => k v124)
/-! tideway/span.right -/
def G_span_right {R : Type} (cp : Nat → Nat → Bool) : Nat → (List SSpan) → SSpan → (Int → Option R) → Option R
  | 0, _, _, _ => none
  | n + 1, p0, p1, k =>
    G_span_Check cp n p0 (fun r125 => cond (!decide (r125 = 0)) (k r125) (G_span_may cp n p1 (fun r126 => cond (!r126) (k 2) (k 0))))
/-! slices.Clone[[]tideway/api.Span,tideway/api.Span] -/
def G_slices_Clone_Span {R : Type} (cp : Nat → Nat → Bool) : Nat → (List SSpan) → ((List SSpan) → Option R) → Option R
  | 0, _, _ => none
  | n + 1, p0, k => cond (cp (0 + p0.length) 16) (k p0) none
/-! tideway/span.Add -/
def s_span_Add_1 {R : Type} (cp : Nat → Nat → Bool) (n : Nat) (p0 : (List SSpan)) (p1 : SSpan) (kn : Option R) : Option R :=
  kn
def s_span_Add_4 {R : Type} (cp : Nat → Nat → Bool) (n : Nat) (p0 : (List SSpan)) (p1 : SSpan) (kn : Option R) (kr : Int → Option R) : Option R :=
  G_span_right cp n p0 p1 (fun r127 => cond (!decide (r127 = 0)) (kr r127) (kn))
def s_span_Add_6 {R : Type} (cp : Nat → Nat → Bool) (n : Nat) (p0 : (List SSpan)) (p1 : SSpan) (kn : Option R) (kr : (List SSpan) → Option R) : Option R :=
  cond (decide (p1.xFrom = p1.xTo)) (G_slices_Clone_Span cp n p0 (fun r129 => kr r129)) (kn)
def s_span_Add_8 {R : Type} (cp : Nat → Nat → Bool) (n : Nat) (p0 : (List SSpan)) (p1 : SSpan) (kn : Option R) : Option R :=
  kn
def s_span_Add_10 {R : Type} (cp : Nat → Nat → Bool) (n : Nat) (p0 : (List SSpan)) (p1 : SSpan) (kn : Option R) : Option R :=
  kn
def s_span_Add_12 {R : Type} (cp : Nat → Nat → Bool) (n : Nat) (p0 : (List SSpan)) (p1 : SSpan) (v131 : (List SSpan)) (v132 : Int) (kn : (List SSpan) → Int → Option R) (ke0 : Option R) : Option R :=
  cond (decide (v132 < (p0.length : Int))) (cond (decide (0 ≤ v132)) (cond (decide (v132 < (p0.length : Int))) (cond (decide (((p0.getD (Int.toNat v132) zSpan).xTo) < p1.xFrom)) (cond (decide (0 ≤ v132)) (cond (decide (v132 < (p0.length : Int))) (cond (cp (v131.length + [(p0.getD (Int.toNat v132) zSpan)].length) 16) (kn (v131 ++ [(p0.getD (Int.toNat v132) zSpan)]) (wr .i64 (v132 + 1))) (none)) (none)) (none)) (ke0)) (none)) (none)) (ke0)
def l_span_Add_16 {R : Type} (cp : Nat → Nat → Bool) (n : Nat) : Nat → (List SSpan) → SSpan → (List SSpan) → Int → ((List SSpan) → Int → Option R) → Option R
  | 0, _, _, _, _, _ => none
  | m + 1, p0, p1, v131, v132, ke0 =>
    s_span_Add_12 cp n p0 p1 v131 v132 (fun v133 v134 => l_span_Add_16 cp n m p0 p1 v133 v134 ke0) (ke0 v131 v132)
def s_span_Add_17 {R : Type} (cp : Nat → Nat → Bool) (n : Nat) (p0 : (List SSpan)) (p1 : SSpan) (ke0 : (List SSpan) → Int → Option R) : Option R :=
  l_span_Add_16 cp n n p0 p1 [] 0 ke0
def s_span_Add_19 {R : Type} (cp : Nat → Nat → Bool) (n : Nat) (p0 : (List SSpan)) (p1 : SSpan) (kn : (List SSpan) → Int → Option R) : Option R :=
  s_span_Add_17 cp n p0 p1 (fun v135 v136 => (kn v135 v136))
def s_span_Add_20 {R : Type} (cp : Nat → Nat → Bool) (n : Nat) (p0 v137 : (List SSpan)) (v139 v140 v141 : Int) (kn : Int → Int → Int → Option R) (ke2 : Option R) : Option R :=
  cond (decide (v139 < (p0.length : Int))) (cond (decide (0 ≤ v139)) (cond (decide (v139 < (p0.length : Int))) (cond (decide (((p0.getD (Int.toNat v139) zSpan).xFrom) ≤ v141)) (cond (decide (0 ≤ v139)) (cond (decide (v139 < (p0.length : Int))) (cond (decide (0 ≤ v139)) (cond (decide (v139 < (p0.length : Int))) (kn (wr .i64 (v139 + 1)) (mn v140 ((p0.getD (Int.toNat v139) zSpan).xFrom)) (mx v141 ((p0.getD (Int.toNat v139) zSpan).xTo))) (none)) (none)) (none)) (none)) (ke2)) (none)) (none)) (ke2)
def l_span_Add_24 {R : Type} (cp : Nat → Nat → Bool) (n : Nat) : Nat → (List SSpan) → (List SSpan) → Int → Int → Int → (Int → Int → Int → Option R) → Option R
  | 0, _, _, _, _, _, _ => none
  | m + 1, p0, v137, v139, v140, v141, ke2 =>
    s_span_Add_20 cp n p0 v137 v139 v140 v141 (fun v142 v143 v144 => l_span_Add_24 cp n m p0 v137 v142 v143 v144 ke2) (ke2 v139 v140 v141)
def s_span_Add_25 {R : Type} (cp : Nat → Nat → Bool) (n : Nat) (p0 : (List SSpan)) (p1 : SSpan) (v137 : (List SSpan)) (v138 : Int) (ke2 : Int → Int → Int → Option R) : Option R :=
  l_span_Add_24 cp n n p0 v137 v138 p1.xFrom p1.xTo ke2
def s_span_Add_27 {R : Type} (cp : Nat → Nat → Bool) (n : Nat) (p0 : (List SSpan)) (p1 : SSpan) (v137 : (List SSpan)) (v138 : Int) (kn : Int → Int → Int → Option R) : Option R :=
  s_span_Add_25 cp n p0 p1 v137 v138 (fun v145 v146 v147 => (kn v145 v146 v147))
def s_span_Add_28 {R : Type} (cp : Nat → Nat → Bool) (n : Nat) (p0 v137 : (List SSpan)) (v148 v149 v150 : Int) (kr : (List SSpan) → Option R) : Option R :=
  cond (cp (v137.length + [(SSpan.mk v149 v150)].length) 16) (cond (decide (0 ≤ v148)) (cond (decide (v148 ≤ (p0.length : Int))) (cond (cp ((v137 ++ [(SSpan.mk v149 v150)]).length + (List.take (p0.length - (Int.toNat v148)) (p0.drop (Int.toNat v148))).length) 16) (kr ((v137 ++ [(SSpan.mk v149 v150)]) ++ (List.take (p0.length - (Int.toNat v148)) (p0.drop (Int.toNat v148))))) (none)) (none)) (none)) (none)
def s_span_Add_31 {R : Type} (cp : Nat → Nat → Bool) (n : Nat) (p0 : (List SSpan)) (p1 : SSpan) (v137 : (List SSpan)) (v138 : Int) (kr : (List SSpan) → Option R) : Option R :=
  s_span_Add_27 cp n p0 p1 v137 v138 (fun v148 v149 v150 => s_span_Add_28 cp n p0 v137 v148 v149 v150 (fun v151 => (kr v151)))
def s_span_Add_33 {R : Type} (cp : Nat → Nat → Bool) (n : Nat) (p0 : (List SSpan)) (p1 : SSpan) (kr : (List SSpan) → Option R) : Option R :=
  s_span_Add_19 cp n p0 p1 (fun v137 v138 => s_span_Add_31 cp n p0 p1 v137 v138 (fun v152 => (kr v152)))
def s_span_Add_35 {R : Type} (cp : Nat → Nat → Bool) (n : Nat) (p0 : (List SSpan)) (p1 : SSpan) (kr : (List SSpan) → Option R) : Option R :=
  s_span_Add_10 cp n p0 p1 (s_span_Add_33 cp n p0 p1 (fun v153 => (kr v153)))
def s_span_Add_37 {R : Type} (cp : Nat → Nat → Bool) (n : Nat) (p0 : (List SSpan)) (p1 : SSpan) (kr : (List SSpan) → Option R) : Option R :=
  s_span_Add_8 cp n p0 p1 (s_span_Add_35 cp n p0 p1 (fun v154 => (kr v154)))
def s_span_Add_39 {R : Type} (cp : Nat → Nat → Bool) (n : Nat) (p0 : (List SSpan)) (p1 : SSpan) (kr : (List SSpan) → Option R) : Option R :=
  s_span_Add_6 cp n p0 p1 (s_span_Add_37 cp n p0 p1 (fun v155 => (kr v155))) (fun v130 => (kr v130))
def s_span_Add_41 {R : Type} (cp : Nat → Nat → Bool) (n : Nat) (p0 : (List SSpan)) (p1 : SSpan) (kr : (List SSpan) → Int → Option R) : Option R :=
  s_span_Add_4 cp n p0 p1 (s_span_Add_39 cp n p0 p1 (fun v156 => (kr v156 0))) (fun v128 => (kr [] v128))
def s_span_Add_43 {R : Type} (cp : Nat → Nat → Bool) (n : Nat) (p0 : (List SSpan)) (p1 : SSpan) (kr : (List SSpan) → Int → Option R) : Option R :=
  s_span_Add_1 cp n p0 p1 (s_span_Add_41 cp n p0 p1 (fun v157 v158 => (kr v157 v158)))
def G_span_Add {R : Type} (cp : Nat → Nat → Bool) : Nat → (List SSpan) → SSpan → ((List SSpan) → Int → Option R) → Option R
  | 0, _, _, _ => none
  | n + 1, p0, p1, k =>
    s_span_Add_43 cp n p0 p1 (fun v159 v160 => k v159 v160)
/-! tideway/ack.Weigh -/
def s_ack_Weigh_1 {R : Type} (cp : Nat → Nat → Bool) (n : Nat) (p0 : SAsked) (p1 : SSegment) (kn : Option R) : Option R :=
  kn
def s_ack_Weigh_4 {R : Type} (cp : Nat → Nat → Bool) (n : Nat) (p0 : SAsked) (p1 : SSegment) (kn : Int → Bool → Option R) : Option R :=
  G_ack_counts cp n p0 p1 (fun r8 r9 => kn r8 r9)
def s_ack_Weigh_6 {R : Type} (cp : Nat → Nat → Bool) (n : Nat) (p0 : SAsked) (p1 : SSegment) (v10 : Int) (v11 : Bool) (kn : Option R) (kr : Option R) : Option R :=
  cond (!v11) (kr) (kn)
def s_ack_Weigh_9 {R : Type} (cp : Nat → Nat → Bool) (n : Nat) (p0 : SAsked) (p1 : SSegment) (v10 : Int) (kn : Int → Bool → Option R) : Option R :=
  kn (mx v10 p0.xUna) (decide (v10 < p0.xUna))
def s_ack_Weigh_11 {R : Type} (cp : Nat → Nat → Bool) (n : Nat) (p0 : SAsked) (p1 : SSegment) (v10 v12 : Int) (v13 : Bool) (kn : Int → Option R) : Option R :=
  cond (p0.xStamps) (kn p1.xVal) (kn 0)
def s_ack_Weigh_13 {R : Type} (cp : Nat → Nat → Bool) (n : Nat) (p0 : SAsked) (p1 : SSegment) (v10 v12 : Int) (v13 : Bool) (v14 : Int) (kn : Int → Option R) : Option R :=
  cond (p0.xStamps) (cond (decide (p0.xUna < v10)) (G_seq_Diff cp n p1.xEcr p0.xNow (fun r15 => kn (mx 0 r15))) (kn 0)) (kn 0)
def s_ack_Weigh_15 {R : Type} (cp : Nat → Nat → Bool) (n : Nat) (p0 : SAsked) (p1 : SSegment) (v10 v12 : Int) (v13 : Bool) (v14 v16 : Int) (kn : Option R) (kr : Option R) : Option R :=
  cond (!p0.xSacks) (kr) (kn)
def s_ack_Weigh_17 {R : Type} (cp : Nat → Nat → Bool) (n : Nat) (p0 : SAsked) (p1 : SSegment) (v10 v12 : Int) (v13 : Bool) (v14 v16 : Int) (kn : (List SSpan) → Int → Int → Int → Int → Int → Bool → Int → Int → Bool → Option R) : Option R :=
  G_ack_offsets cp n p1.xSacks p0 (fun r104 r105 => kn r104 r105.xUna r105.xNext r105.xIss r105.xPeer r105.xIrs r105.xStamps r105.xRecent r105.xNow r105.xSacks)
def s_ack_Weigh_19 {R : Type} (cp : Nat → Nat → Bool) (n : Nat) (p0 : SAsked) (p1 : SSegment) (v10 v12 : Int) (v13 : Bool) (v14 v16 : Int) (v106 : (List SSpan)) (v107 v108 v109 v110 v111 : Int) (v112 : Bool) (v113 v114 : Int) (v115 : Bool) (kn : Bool → Option R) : Option R :=
  G_ack_twice cp n v106 v10 (fun r116 => kn r116)
def s_ack_Weigh_21 {R : Type} (cp : Nat → Nat → Bool) (n : Nat) (p0 : SAsked) (p1 : SSegment) (v12 : Int) (v13 : Bool) (v14 v16 : Int) (v106 : (List SSpan)) (v107 v108 v109 v110 v111 : Int) (v112 : Bool) (v113 v114 : Int) (v115 v117 : Bool) (kn : Option R) : Option R :=
  kn
def s_ack_Weigh_22 {R : Type} (cp : Nat → Nat → Bool) (n : Nat) (p0 : SAsked) (p1 : SSegment) (v12 : Int) (v13 : Bool) (v14 v16 : Int) (v106 : (List SSpan)) (v107 v108 v109 v110 v111 : Int) (v112 : Bool) (v113 v114 : Int) (v115 v117 : Bool) (kn : Int → Option R) : Option R :=
  kn (v106.length : Int)
def s_ack_Weigh_24 {R : Type} (cp : Nat → Nat → Bool) (n : Nat) (p0 : SAsked) (p1 : SSegment) (v12 : Int) (v13 : Bool) (v14 v16 : Int) (v106 : (List SSpan)) (v107 v108 v109 v110 v111 : Int) (v112 : Bool) (v113 v114 : Int) (v115 v117 : Bool) (v118 v119 : Int) (v120 : (List SSpan)) (kn : Int → (List SSpan) → Option R) (ke0 : Option R) : Option R :=
  cond (decide (v119 < v118)) (cond (decide (0 ≤ v119)) (cond (decide (v119 < (v106.length : Int))) (cond (decide (v119 = 0)) (cond (v117) (kn (wr .i64 (v119 + 1)) v120) (cond (decide (((v106.getD (Int.toNat v119) zSpan).xFrom) < v12)) (kn (wr .i64 (v119 + 1)) v120) (cond (decide (((v106.getD (Int.toNat v119) zSpan).xTo) ≤ ((v106.getD (Int.toNat v119) zSpan).xFrom))) (kn (wr .i64 (v119 + 1)) v120) (cond (decide ((mn v108 1125899906842624) < ((v106.getD (Int.toNat v119) zSpan).xTo))) (kn (wr .i64 (v119 + 1)) v120) (G_span_Add cp n v120 (v106.getD (Int.toNat v119) zSpan) (fun r121 r122 => kn (wr .i64 (v119 + 1)) r121)))))) (cond (decide (((v106.getD (Int.toNat v119) zSpan).xFrom) < v12)) (kn (wr .i64 (v119 + 1)) v120) (cond (decide (((v106.getD (Int.toNat v119) zSpan).xTo) ≤ ((v106.getD (Int.toNat v119) zSpan).xFrom))) (kn (wr .i64 (v119 + 1)) v120) (cond (decide ((mn v108 1125899906842624) < ((v106.getD (Int.toNat v119) zSpan).xTo))) (kn (wr .i64 (v119 + 1)) v120) (G_span_Add cp n v120 (v106.getD (Int.toNat v119) zSpan) (fun r123 r124 => kn (wr .i64 (v119 + 1)) r123)))))) (none)) (none)) (ke0)
def l_ack_Weigh_29 {R : Type} (cp : Nat → Nat → Bool) (n : Nat) : Nat → SAsked → SSegment → Int → Bool → Int → Int → (List SSpan) → Int → Int → Int → Int → Int → Bool → Int → Int → Bool → Bool → Int → Int → (List SSpan) → ((List SSpan) → Option R) → Option R
  | 0, _, _, _, _, _, _, _, _, _, _, _, _, _, _, _, _, _, _, _, _, _ => none
  | m + 1, p0, p1, v12, v13, v14, v16, v106, v107, v108, v109, v110, v111, v112, v113, v114, v115, v117, v118, v119, v120, ke0 =>
    s_ack_Weigh_24 cp n p0 p1 v12 v13 v14 v16 v106 v107 v108 v109 v110 v111 v112 v113 v114 v115 v117 v118 v119 v120 (fun v125 v126 => l_ack_Weigh_29 cp n m p0 p1 v12 v13 v14 v16 v106 v107 v108 v109 v110 v111 v112 v113 v114 v115 v117 v118 v125 v126 ke0) (ke0 v120)
def s_ack_Weigh_30 {R : Type} (cp : Nat → Nat → Bool) (n : Nat) (p0 : SAsked) (p1 : SSegment) (v12 : Int) (v13 : Bool) (v14 v16 : Int) (v106 : (List SSpan)) (v107 v108 v109 v110 v111 : Int) (v112 : Bool) (v113 v114 : Int) (v115 v117 : Bool) (v118 : Int) (ke0 : (List SSpan) → Option R) : Option R :=
  l_ack_Weigh_29 cp n n p0 p1 v12 v13 v14 v16 v106 v107 v108 v109 v110 v111 v112 v113 v114 v115 v117 v118 0 [] ke0
def s_ack_Weigh_32 {R : Type} (cp : Nat → Nat → Bool) (n : Nat) (p0 : SAsked) (p1 : SSegment) (v12 : Int) (v13 : Bool) (v14 v16 : Int) (v106 : (List SSpan)) (v107 v108 v109 v110 v111 : Int) (v112 : Bool) (v113 v114 : Int) (v115 v117 : Bool) (v118 : Int) (kn : (List SSpan) → Option R) : Option R :=
  s_ack_Weigh_30 cp n p0 p1 v12 v13 v14 v16 v106 v107 v108 v109 v110 v111 v112 v113 v114 v115 v117 v118 (fun v127 => (kn v127))
def s_ack_Weigh_34 {R : Type} (cp : Nat → Nat → Bool) (n : Nat) (p0 : SAsked) (p1 : SSegment) (v12 : Int) (v13 : Bool) (v14 v16 : Int) (v106 : (List SSpan)) (v107 v108 v109 v110 v111 : Int) (v112 : Bool) (v113 v114 : Int) (v115 v117 : Bool) (kn : (List SSpan) → Option R) : Option R :=
  s_ack_Weigh_22 cp n p0 p1 v12 v13 v14 v16 v106 v107 v108 v109 v110 v111 v112 v113 v114 v115 v117 (fun v118 => s_ack_Weigh_32 cp n p0 p1 v12 v13 v14 v16 v106 v107 v108 v109 v110 v111 v112 v113 v114 v115 v117 v118 (fun v128 => (kn v128)))
def s_ack_Weigh_35 {R : Type} (cp : Nat → Nat → Bool) (n : Nat) (p0 : SAsked) (p1 : SSegment) (v12 : Int) (v13 : Bool) (v14 v16 : Int) (v117 : Bool) (v129 : (List SSpan)) (kr : Option R) : Option R :=
  kr
def s_ack_Weigh_38 {R : Type} (cp : Nat → Nat → Bool) (n : Nat) (p0 : SAsked) (p1 : SSegment) (v12 : Int) (v13 : Bool) (v14 v16 : Int) (v106 : (List SSpan)) (v107 v108 v109 v110 v111 : Int) (v112 : Bool) (v113 v114 : Int) (v115 v117 : Bool) (kr : (List SSpan) → Option R) : Option R :=
  s_ack_Weigh_34 cp n p0 p1 v12 v13 v14 v16 v106 v107 v108 v109 v110 v111 v112 v113 v114 v115 v117 (fun v129 => s_ack_Weigh_35 cp n p0 p1 v12 v13 v14 v16 v117 v129 (kr v129))
def s_ack_Weigh_40 {R : Type} (cp : Nat → Nat → Bool) (n : Nat) (p0 : SAsked) (p1 : SSegment) (v12 : Int) (v13 : Bool) (v14 v16 : Int) (v106 : (List SSpan)) (v107 v108 v109 v110 v111 : Int) (v112 : Bool) (v113 v114 : Int) (v115 v117 : Bool) (kr : (List SSpan) → Option R) : Option R :=
  s_ack_Weigh_21 cp n p0 p1 v12 v13 v14 v16 v106 v107 v108 v109 v110 v111 v112 v113 v114 v115 v117 (s_ack_Weigh_38 cp n p0 p1 v12 v13 v14 v16 v106 v107 v108 v109 v110 v111 v112 v113 v114 v115 v117 (fun v130 => (kr v130)))
def s_ack_Weigh_42 {R : Type} (cp : Nat → Nat → Bool) (n : Nat) (p0 : SAsked) (p1 : SSegment) (v10 v12 : Int) (v13 : Bool) (v14 v16 : Int) (v106 : (List SSpan)) (v107 v108 v109 v110 v111 : Int) (v112 : Bool) (v113 v114 : Int) (v115 : Bool) (kr : Bool → (List SSpan) → Option R) : Option R :=
  s_ack_Weigh_19 cp n p0 p1 v10 v12 v13 v14 v16 v106 v107 v108 v109 v110 v111 v112 v113 v114 v115 (fun v117 => s_ack_Weigh_40 cp n p0 p1 v12 v13 v14 v16 v106 v107 v108 v109 v110 v111 v112 v113 v114 v115 v117 (fun v131 => (kr v117 v131)))
def s_ack_Weigh_44 {R : Type} (cp : Nat → Nat → Bool) (n : Nat) (p0 : SAsked) (p1 : SSegment) (v10 v12 : Int) (v13 : Bool) (v14 v16 : Int) (kr : Bool → (List SSpan) → Option R) : Option R :=
  s_ack_Weigh_17 cp n p0 p1 v10 v12 v13 v14 v16 (fun v106 v107 v108 v109 v110 v111 v112 v113 v114 v115 => s_ack_Weigh_42 cp n p0 p1 v10 v12 v13 v14 v16 v106 v107 v108 v109 v110 v111 v112 v113 v114 v115 (fun v132 v133 => (kr v132 v133)))
def s_ack_Weigh_46 {R : Type} (cp : Nat → Nat → Bool) (n : Nat) (p0 : SAsked) (p1 : SSegment) (v10 v12 : Int) (v13 : Bool) (v14 v16 : Int) (kr : Bool → (List SSpan) → Option R) : Option R :=
  s_ack_Weigh_15 cp n p0 p1 v10 v12 v13 v14 v16 (s_ack_Weigh_44 cp n p0 p1 v10 v12 v13 v14 v16 (fun v134 v135 => (kr v134 v135))) (kr false [])
def s_ack_Weigh_48 {R : Type} (cp : Nat → Nat → Bool) (n : Nat) (p0 : SAsked) (p1 : SSegment) (v10 v12 : Int) (v13 : Bool) (v14 : Int) (kr : Int → Bool → (List SSpan) → Option R) : Option R :=
  s_ack_Weigh_13 cp n p0 p1 v10 v12 v13 v14 (fun v16 => s_ack_Weigh_46 cp n p0 p1 v10 v12 v13 v14 v16 (fun v136 v137 => (kr v16 v136 v137)))
def s_ack_Weigh_50 {R : Type} (cp : Nat → Nat → Bool) (n : Nat) (p0 : SAsked) (p1 : SSegment) (v10 v12 : Int) (v13 : Bool) (kr : Int → Int → Bool → (List SSpan) → Option R) : Option R :=
  s_ack_Weigh_11 cp n p0 p1 v10 v12 v13 (fun v14 => s_ack_Weigh_48 cp n p0 p1 v10 v12 v13 v14 (fun v138 v139 v140 => (kr v14 v138 v139 v140)))
def s_ack_Weigh_52 {R : Type} (cp : Nat → Nat → Bool) (n : Nat) (p0 : SAsked) (p1 : SSegment) (v10 : Int) (kr : Int → Bool → Int → Int → Bool → (List SSpan) → Option R) : Option R :=
  s_ack_Weigh_9 cp n p0 p1 v10 (fun v12 v13 => s_ack_Weigh_50 cp n p0 p1 v10 v12 v13 (fun v141 v142 v143 v144 => (kr v12 v13 v141 v142 v143 v144)))
def s_ack_Weigh_54 {R : Type} (cp : Nat → Nat → Bool) (n : Nat) (p0 : SAsked) (p1 : SSegment) (v10 : Int) (v11 : Bool) (kr : Bool → Int → Bool → Int → Int → Int → Int → Bool → (List SSpan) → Option R) : Option R :=
  s_ack_Weigh_6 cp n p0 p1 v10 v11 (s_ack_Weigh_52 cp n p0 p1 v10 (fun v145 v146 v147 v148 v149 v150 => (kr true v145 v146 p0.xPeer p1.xWin v147 v148 v149 v150))) (kr false 0 false 0 0 0 0 false [])
def s_ack_Weigh_56 {R : Type} (cp : Nat → Nat → Bool) (n : Nat) (p0 : SAsked) (p1 : SSegment) (kr : Bool → Int → Bool → Int → Int → Int → Int → Bool → (List SSpan) → Option R) : Option R :=
  s_ack_Weigh_4 cp n p0 p1 (fun v10 v11 => s_ack_Weigh_54 cp n p0 p1 v10 v11 (fun v151 v152 v153 v154 v155 v156 v157 v158 v159 => (kr v151 v152 v153 v154 v155 v156 v157 v158 v159)))
def s_ack_Weigh_58 {R : Type} (cp : Nat → Nat → Bool) (n : Nat) (p0 : SAsked) (p1 : SSegment) (kr : Bool → Int → Bool → Int → Int → Int → Int → Bool → (List SSpan) → Option R) : Option R :=
  s_ack_Weigh_1 cp n p0 p1 (s_ack_Weigh_56 cp n p0 p1 (fun v160 v161 v162 v163 v164 v165 v166 v167 v168 => (kr v160 v161 v162 v163 v164 v165 v166 v167 v168)))
def G_ack_Weigh {R : Type} (cp : Nat → Nat → Bool) : Nat → SAsked → SSegment → (SHeard → Option R) → Option R
  | 0, _, _, _ => none
  | n + 1, p0, p1, k =>
    s_ack_Weigh_58 cp n p0 p1 (fun v169 v170 v171 v172 v173 v174 v175 v176 v177 => k (SHeard.mk v169 v170 v171 v172 v173 v174 v175 v176 v177))
/-! tideway/tidewaylaw22.heads -/
def G_law22_heads {R : Type} (cp : Nat → Nat → Bool) : Nat → (Bool → Option R) → Option R
  | 0, _ => none
  | n + 1, k =>
    G_ack_Weigh cp n (SAsked.mk 5 10 100 0 0 false 0 0 true) (SSegment.mk 0 0 0 107 16 0 0 0 0 false false 0 0 [(SBlock.mk 108 110)] []) (fun r188 => G_ack_Weigh cp n (SAsked.mk 5 10 100 0 0 false 0 0 true) (SSegment.mk 0 0 0 111 16 0 0 0 0 false false 0 0 [] []) (fun r189 => G_ack_Weigh cp n (SAsked.mk 5 10 100 0 0 false 0 0 true) (SSegment.mk 0 0 0 107 0 0 0 0 0 false false 0 0 [] []) (fun r190 => cond (r188.xCounts) (cond (decide (r188.xAck = 7)) (cond (decide ((r188.xSpans.length : Int) = 1)) (cond (decide (0 < (r188.xSpans.length : Int))) (cond ((decide ((r188.xSpans.getD 0 zSpan).xFrom = 8) && (decide ((r188.xSpans.getD 0 zSpan).xTo = 10) && true))) (cond (!r189.xCounts) (k (!r190.xCounts)) (k false)) (k false)) (none)) (k false)) (k false)) (k false))))
/-! tideway/tidewaylaw22.AckWithin -/
def s_law22_AckWithin_1 {R : Type} (cp : Nat → Nat → Bool) (n : Nat) (p0 : SAsked) (p1 : SSegment) (kn : Option R) : Option R :=
  kn
def s_law22_AckWithin_4 {R : Type} (cp : Nat → Nat → Bool) (n : Nat) (p0 : SAsked) (p1 : SSegment) (kn : Bool → Int → Bool → Int → Int → Int → Int → Bool → (List SSpan) → Option R) : Option R :=
  G_ack_Weigh cp n p0 p1 (fun r178 => kn r178.xCounts r178.xAck r178.xOld r178.xAt r178.xWin r178.xRecent r178.xRtt r178.xTwice r178.xSpans)
def s_law22_AckWithin_6 {R : Type} (cp : Nat → Nat → Bool) (n : Nat) (p0 : SAsked) (v179 : Bool) (v180 : Int) (v181 : Bool) (v182 v183 v184 v185 : Int) (v186 : Bool) (v187 : (List SSpan)) (kn : Option R) (kr : Bool → Option R) : Option R :=
  cond (!v179) (cond (!v181) (cond (!v186) (cond (decide (v180 = 0)) (cond (decide (v182 = 0)) (cond (decide ((v187.length : Int) = 0)) (G_law22_heads cp n (fun r191 => kr r191)) (kr false)) (kr false)) (kr false)) (kr false)) (kr false)) (kn)
def s_law22_AckWithin_8 {R : Type} (cp : Nat → Nat → Bool) (n : Nat) (p0 : SAsked) (v179 : Bool) (v180 : Int) (v181 : Bool) (v182 v183 v184 v185 : Int) (v186 : Bool) (v187 : (List SSpan)) (kn : Option R) (kr : Option R) : Option R :=
  cond (decide (v180 < p0.xUna)) (kr) (cond (decide (p0.xNext < v180)) (kr) (cond (decide (v185 < 0)) (kr) (G_span_Check cp n v187 (fun r193 => cond (!decide (r193 = 0)) (kr) (cond (v181) (cond (!decide (v180 = p0.xUna)) (kr) (kn)) (kn))))))
def s_law22_AckWithin_10 {R : Type} (cp : Nat → Nat → Bool) (n : Nat) (p0 : SAsked) (v179 : Bool) (v180 : Int) (v181 : Bool) (v182 v183 v184 v185 : Int) (v186 : Bool) (v187 : (List SSpan)) (kn : Option R) : Option R :=
  kn
def s_law22_AckWithin_12 {R : Type} (cp : Nat → Nat → Bool) (n : Nat) (p0 : SAsked) (v179 : Bool) (v180 : Int) (v181 : Bool) (v182 v183 v184 v185 : Int) (v186 : Bool) (v187 : (List SSpan)) (v194 : Int) (kn : Int → Option R) (kr : Option R) (ke0 : Option R) : Option R :=
  cond (decide (v194 < (v187.length : Int))) (cond (decide (0 ≤ v194)) (cond (decide (v194 < (v187.length : Int))) (cond (decide (((v187.getD (Int.toNat v194) zSpan).xFrom) < v180)) (kr) (cond (decide (0 ≤ v194)) (cond (decide (v194 < (v187.length : Int))) (cond (decide (p0.xNext < ((v187.getD (Int.toNat v194) zSpan).xTo))) (kr) (kn (wr .i64 (v194 + 1)))) (none)) (none))) (none)) (none)) (ke0)
def l_law22_AckWithin_16 {R : Type} (cp : Nat → Nat → Bool) (n : Nat) : Nat → SAsked → Bool → Int → Bool → Int → Int → Int → Int → Bool → (List SSpan) → Int → (Option R) → (Option R) → Option R
  | 0, _, _, _, _, _, _, _, _, _, _, _, _, _ => none
  | m + 1, p0, v179, v180, v181, v182, v183, v184, v185, v186, v187, v194, kr, ke0 =>
    s_law22_AckWithin_12 cp n p0 v179 v180 v181 v182 v183 v184 v185 v186 v187 v194 (fun v195 => l_law22_AckWithin_16 cp n m p0 v179 v180 v181 v182 v183 v184 v185 v186 v187 v195 kr ke0) kr ke0
def s_law22_AckWithin_17 {R : Type} (cp : Nat → Nat → Bool) (n : Nat) (p0 : SAsked) (v179 : Bool) (v180 : Int) (v181 : Bool) (v182 v183 v184 v185 : Int) (v186 : Bool) (v187 : (List SSpan)) (kr : Option R) (ke0 : Option R) : Option R :=
  l_law22_AckWithin_16 cp n n p0 v179 v180 v181 v182 v183 v184 v185 v186 v187 0 kr ke0
def s_law22_AckWithin_18 {R : Type} (cp : Nat → Nat → Bool) (n : Nat) (p0 : SAsked) (v179 : Bool) (v180 : Int) (v181 : Bool) (v182 v183 v184 v185 : Int) (v186 : Bool) (v187 : (List SSpan)) (kn : Option R) (kr : Option R) : Option R :=
  s_law22_AckWithin_17 cp n p0 v179 v180 v181 v182 v183 v184 v185 v186 v187 kr kn
def s_law22_AckWithin_19 {R : Type} (cp : Nat → Nat → Bool) (n : Nat) (p0 : SAsked) (v179 : Bool) (v180 : Int) (v181 : Bool) (v182 v183 v184 v185 : Int) (v186 : Bool) (v187 : (List SSpan)) (kn : Option R) (kr : Option R) : Option R :=
  s_law22_AckWithin_10 cp n p0 v179 v180 v181 v182 v183 v184 v185 v186 v187 (s_law22_AckWithin_18 cp n p0 v179 v180 v181 v182 v183 v184 v185 v186 v187 kn kr)
def s_law22_AckWithin_20 {R : Type} (cp : Nat → Nat → Bool) (n : Nat) (kr : Bool → Option R) : Option R :=
  G_law22_heads cp n (fun r196 => kr r196)
def s_law22_AckWithin_23 {R : Type} (cp : Nat → Nat → Bool) (n : Nat) (p0 : SAsked) (v179 : Bool) (v180 : Int) (v181 : Bool) (v182 v183 v184 v185 : Int) (v186 : Bool) (v187 : (List SSpan)) (kr : Bool → Option R) : Option R :=
  s_law22_AckWithin_19 cp n p0 v179 v180 v181 v182 v183 v184 v185 v186 v187 (s_law22_AckWithin_20 cp n (fun v197 => (kr v197))) (kr false)
def s_law22_AckWithin_25 {R : Type} (cp : Nat → Nat → Bool) (n : Nat) (p0 : SAsked) (v179 : Bool) (v180 : Int) (v181 : Bool) (v182 v183 v184 v185 : Int) (v186 : Bool) (v187 : (List SSpan)) (kr : Bool → Option R) : Option R :=
  s_law22_AckWithin_8 cp n p0 v179 v180 v181 v182 v183 v184 v185 v186 v187 (s_law22_AckWithin_23 cp n p0 v179 v180 v181 v182 v183 v184 v185 v186 v187 (fun v198 => (kr v198))) (kr false)
def s_law22_AckWithin_27 {R : Type} (cp : Nat → Nat → Bool) (n : Nat) (p0 : SAsked) (v179 : Bool) (v180 : Int) (v181 : Bool) (v182 v183 v184 v185 : Int) (v186 : Bool) (v187 : (List SSpan)) (kr : Bool → Option R) : Option R :=
  s_law22_AckWithin_6 cp n p0 v179 v180 v181 v182 v183 v184 v185 v186 v187 (s_law22_AckWithin_25 cp n p0 v179 v180 v181 v182 v183 v184 v185 v186 v187 (fun v199 => (kr v199))) (fun v192 => (kr v192))
def s_law22_AckWithin_29 {R : Type} (cp : Nat → Nat → Bool) (n : Nat) (p0 : SAsked) (p1 : SSegment) (kr : Bool → Option R) : Option R :=
  s_law22_AckWithin_4 cp n p0 p1 (fun v179 v180 v181 v182 v183 v184 v185 v186 v187 => s_law22_AckWithin_27 cp n p0 v179 v180 v181 v182 v183 v184 v185 v186 v187 (fun v200 => (kr v200)))
def s_law22_AckWithin_31 {R : Type} (cp : Nat → Nat → Bool) (n : Nat) (p0 : SAsked) (p1 : SSegment) (kr : Bool → Option R) : Option R :=
  s_law22_AckWithin_1 cp n p0 p1 (s_law22_AckWithin_29 cp n p0 p1 (fun v201 => (kr v201)))
def G_law22_AckWithin {R : Type} (cp : Nat → Nat → Bool) : Nat → SAsked → SSegment → (Bool → Option R) → Option R
  | 0, _, _, _ => none
  | n + 1, p0, p1, k =>
    s_law22_AckWithin_31 cp n p0 p1 (fun v202 => k v202)
/-! tideway/tidewayref06.Same -/
def s_ref06_Same_1 {R : Type} (cp : Nat → Nat → Bool) (n : Nat) (p0 p1 : (List SSpan)) (kn : Option R) : Option R :=
  kn
def s_ref06_Same_3 {R : Type} (cp : Nat → Nat → Bool) (n : Nat) (p0 p1 : (List SSpan)) (kn : Option R) (kr : Option R) : Option R :=
  cond (!decide ((p0.length : Int) = (p1.length : Int))) (kr) (kn)
def s_ref06_Same_5 {R : Type} (cp : Nat → Nat → Bool) (n : Nat) (p0 p1 : (List SSpan)) (kn : Option R) : Option R :=
  kn
def s_ref06_Same_7 {R : Type} (cp : Nat → Nat → Bool) (n : Nat) (p0 p1 : (List SSpan)) (v206 : Int) (kn : Int → Option R) (kr : Option R) (ke0 : Option R) : Option R :=
  cond (decide (v206 < (p0.length : Int))) (cond (decide (0 ≤ v206)) (cond (decide (v206 < (p0.length : Int))) (cond (decide (0 ≤ v206)) (cond (decide (v206 < (p1.length : Int))) (cond (!(decide ((p0.getD (Int.toNat v206) zSpan).xFrom = (p1.getD (Int.toNat v206) zSpan).xFrom) && (decide ((p0.getD (Int.toNat v206) zSpan).xTo = (p1.getD (Int.toNat v206) zSpan).xTo) && true))) (kr) (kn (wr .i64 (v206 + 1)))) (none)) (none)) (none)) (none)) (ke0)
def l_ref06_Same_11 {R : Type} (cp : Nat → Nat → Bool) (n : Nat) : Nat → (List SSpan) → (List SSpan) → Int → (Option R) → (Option R) → Option R
  | 0, _, _, _, _, _ => none
  | m + 1, p0, p1, v206, kr, ke0 =>
    s_ref06_Same_7 cp n p0 p1 v206 (fun v207 => l_ref06_Same_11 cp n m p0 p1 v207 kr ke0) kr ke0
def s_ref06_Same_12 {R : Type} (cp : Nat → Nat → Bool) (n : Nat) (p0 p1 : (List SSpan)) (kr : Option R) (ke0 : Option R) : Option R :=
  l_ref06_Same_11 cp n n p0 p1 0 kr ke0
def s_ref06_Same_13 {R : Type} (cp : Nat → Nat → Bool) (n : Nat) (p0 p1 : (List SSpan)) (kn : Option R) (kr : Option R) : Option R :=
  s_ref06_Same_12 cp n p0 p1 kr kn
def s_ref06_Same_14 {R : Type} (cp : Nat → Nat → Bool) (n : Nat) (p0 p1 : (List SSpan)) (kn : Option R) (kr : Option R) : Option R :=
  s_ref06_Same_5 cp n p0 p1 (s_ref06_Same_13 cp n p0 p1 kn kr)
def s_ref06_Same_15 {R : Type} (cp : Nat → Nat → Bool) (n : Nat) (kr : Option R) : Option R :=
  kr
def s_ref06_Same_18 {R : Type} (cp : Nat → Nat → Bool) (n : Nat) (p0 p1 : (List SSpan)) (kr : Bool → Option R) : Option R :=
  s_ref06_Same_14 cp n p0 p1 (s_ref06_Same_15 cp n (kr true)) (kr false)
def s_ref06_Same_20 {R : Type} (cp : Nat → Nat → Bool) (n : Nat) (p0 p1 : (List SSpan)) (kr : Bool → Option R) : Option R :=
  s_ref06_Same_3 cp n p0 p1 (s_ref06_Same_18 cp n p0 p1 (fun v208 => (kr v208))) (kr false)
def s_ref06_Same_22 {R : Type} (cp : Nat → Nat → Bool) (n : Nat) (p0 p1 : (List SSpan)) (kr : Bool → Option R) : Option R :=
  s_ref06_Same_1 cp n p0 p1 (s_ref06_Same_20 cp n p0 p1 (fun v209 => (kr v209)))
def G_ref06_Same {R : Type} (cp : Nat → Nat → Bool) : Nat → (List SSpan) → (List SSpan) → (Bool → Option R) → Option R
  | 0, _, _, _ => none
  | n + 1, p0, p1, k =>
    s_ref06_Same_22 cp n p0 p1 (fun v210 => k v210)
/-! tideway/tidewayref22.Same -/
def G_ref22_Same {R : Type} (cp : Nat → Nat → Bool) : Nat → SHeard → SHeard → (Bool → Option R) → Option R
  | 0, _, _, _ => none
  | n + 1, p0, p1, k =>
    cond ((p0.xCounts == p1.xCounts)) (cond (decide (p0.xAck = p1.xAck)) (cond ((p0.xOld == p1.xOld)) (cond (decide (p0.xAt = p1.xAt)) (cond (decide (p0.xWin = p1.xWin)) (cond (decide (p0.xRecent = p1.xRecent)) (cond (decide (p0.xRtt = p1.xRtt)) (cond ((p0.xTwice == p1.xTwice)) (G_ref06_Same cp n p0.xSpans p1.xSpans (fun r211 => k r211)) (k false)) (k false)) (k false)) (k false)) (k false)) (k false)) (k false)) (k false)
/-! tideway/tidewaylaw22.AckPlain -/
def G_law22_AckPlain {R : Type} (cp : Nat → Nat → Bool) : Nat → SAsked → SSegment → (Bool → Option R) → Option R
  | 0, _, _, _ => none
  | n + 1, p0, p1, k =>
    G_ack_Weigh cp n (SAsked.mk p0.xUna p0.xNext p0.xIss p0.xPeer p0.xIrs p0.xStamps p0.xRecent p0.xNow false) p1 (fun r203 => G_ack_Weigh cp n p0 (SSegment.mk p1.xSrcPort p1.xDstPort p1.xSeq p1.xAck p1.xFlags p1.xWin p1.xUrg p1.xMss p1.xScale p1.xSackOk p1.xStamped p1.xVal p1.xEcr [] p1.xData) (fun r204 => G_ack_Weigh cp n p0 p1 (fun r205 => G_ref22_Same cp n r203 r204 (fun r212 => cond (r212) (G_ref22_Same cp n r203 (SHeard.mk r205.xCounts r205.xAck r205.xOld r205.xAt r205.xWin r205.xRecent r205.xRtt false []) (fun r213 => cond (r213) (cond (decide ((r203.xSpans.length : Int) = 0)) (cond (!r203.xTwice) (G_law22_heads cp n (fun r214 => k r214)) (k false)) (k false)) (k false))) (k false)))))
/-! tideway/tidewaylaw22.AckShifts -/
def s_law22_AckShifts_1 {R : Type} (cp : Nat → Nat → Bool) (n : Nat) (p0 : SAsked) (p1 : SSegment) (p2 p3 : Int) (kn : Option R) : Option R :=
  kn
def s_law22_AckShifts_4 {R : Type} (cp : Nat → Nat → Bool) (n : Nat) (p0 : SAsked) (p1 : SSegment) (p2 p3 : Int) (kn : Option R) (kr : Bool → Option R) : Option R :=
  cond (decide (100 < (p1.xSacks.length : Int))) (G_law22_heads cp n (fun r215 => kr r215)) (kn)
def s_law22_AckShifts_6 {R : Type} (cp : Nat → Nat → Bool) (n : Nat) (p0 : SAsked) (p1 : SSegment) (p2 p3 : Int) (kn : Option R) : Option R :=
  kn
def s_law22_AckShifts_8 {R : Type} (cp : Nat → Nat → Bool) (n : Nat) (p0 : SAsked) (p1 : SSegment) (p2 p3 : Int) (kn : Int → Int → Option R) : Option R :=
  kn (wr .u32 (p0.xIss + p2)) (wr .u32 (p0.xIrs + p3))
def s_law22_AckShifts_10 {R : Type} (cp : Nat → Nat → Bool) (n : Nat) (p0 : SAsked) (p1 : SSegment) (p2 p3 v217 v218 : Int) (kn : Int → Int → Option R) : Option R :=
  kn (wr .u32 (p1.xSeq + p3)) (wr .u32 (p1.xAck + p2))
def s_law22_AckShifts_12 {R : Type} (cp : Nat → Nat → Bool) (n : Nat) (p0 : SAsked) (p1 : SSegment) (p2 v217 v218 v219 v220 : Int) (kn : Option R) : Option R :=
  kn
def s_law22_AckShifts_14 {R : Type} (cp : Nat → Nat → Bool) (n : Nat) (p0 : SAsked) (p1 : SSegment) (p2 v217 v218 v219 v220 : Int) (kn : Option R) : Option R :=
  kn
def s_law22_AckShifts_16 {R : Type} (cp : Nat → Nat → Bool) (n : Nat) (p0 : SAsked) (p1 : SSegment) (p2 v217 v218 v219 v220 v221 : Int) (v222 : (List SBlock)) (kn : Int → (List SBlock) → Option R) (ke0 : Option R) : Option R :=
  cond (decide (v221 < (p1.xSacks.length : Int))) (cond (decide (0 ≤ v221)) (cond (decide (v221 < (p1.xSacks.length : Int))) (cond (decide (0 ≤ v221)) (cond (decide (v221 < (p1.xSacks.length : Int))) (cond (cp (v222.length + [(SBlock.mk (wr .u32 (((p1.xSacks.getD (Int.toNat v221) zBlock).xFrom) + p2)) (wr .u32 (((p1.xSacks.getD (Int.toNat v221) zBlock).xTo) + p2)))].length) 8) (kn (wr .i64 (v221 + 1)) (v222 ++ [(SBlock.mk (wr .u32 (((p1.xSacks.getD (Int.toNat v221) zBlock).xFrom) + p2)) (wr .u32 (((p1.xSacks.getD (Int.toNat v221) zBlock).xTo) + p2)))])) (none)) (none)) (none)) (none)) (none)) (ke0)
def l_law22_AckShifts_21 {R : Type} (cp : Nat → Nat → Bool) (n : Nat) : Nat → SAsked → SSegment → Int → Int → Int → Int → Int → Int → (List SBlock) → ((List SBlock) → Option R) → Option R
  | 0, _, _, _, _, _, _, _, _, _, _ => none
  | m + 1, p0, p1, p2, v217, v218, v219, v220, v221, v222, ke0 =>
    s_law22_AckShifts_16 cp n p0 p1 p2 v217 v218 v219 v220 v221 v222 (fun v223 v224 => l_law22_AckShifts_21 cp n m p0 p1 p2 v217 v218 v219 v220 v223 v224 ke0) (ke0 v222)
def s_law22_AckShifts_22 {R : Type} (cp : Nat → Nat → Bool) (n : Nat) (p0 : SAsked) (p1 : SSegment) (p2 v217 v218 v219 v220 : Int) (ke0 : (List SBlock) → Option R) : Option R :=
  l_law22_AckShifts_21 cp n n p0 p1 p2 v217 v218 v219 v220 0 [] ke0
def s_law22_AckShifts_24 {R : Type} (cp : Nat → Nat → Bool) (n : Nat) (p0 : SAsked) (p1 : SSegment) (p2 v217 v218 v219 v220 : Int) (kn : (List SBlock) → Option R) : Option R :=
  s_law22_AckShifts_22 cp n p0 p1 p2 v217 v218 v219 v220 (fun v225 => (kn v225))
def s_law22_AckShifts_26 {R : Type} (cp : Nat → Nat → Bool) (n : Nat) (p0 : SAsked) (p1 : SSegment) (p2 v217 v218 v219 v220 : Int) (kn : (List SBlock) → Option R) : Option R :=
  s_law22_AckShifts_14 cp n p0 p1 p2 v217 v218 v219 v220 (s_law22_AckShifts_24 cp n p0 p1 p2 v217 v218 v219 v220 (fun v226 => (kn v226)))
def s_law22_AckShifts_27 {R : Type} (cp : Nat → Nat → Bool) (n : Nat) (p0 : SAsked) (p1 : SSegment) (v217 v218 v219 v220 : Int) (v227 : (List SBlock)) (kr : Bool → Option R) : Option R :=
  G_ack_Weigh cp n p0 p1 (fun r228 => G_ack_Weigh cp n (SAsked.mk p0.xUna p0.xNext v217 p0.xPeer v218 p0.xStamps p0.xRecent p0.xNow p0.xSacks) (SSegment.mk p1.xSrcPort p1.xDstPort v219 v220 p1.xFlags p1.xWin p1.xUrg p1.xMss p1.xScale p1.xSackOk p1.xStamped p1.xVal p1.xEcr v227 p1.xData) (fun r229 => G_ref22_Same cp n r228 r229 (fun r230 => cond (r230) (G_law22_heads cp n (fun r231 => kr r231)) (kr false))))
def s_law22_AckShifts_30 {R : Type} (cp : Nat → Nat → Bool) (n : Nat) (p0 : SAsked) (p1 : SSegment) (p2 v217 v218 v219 v220 : Int) (kr : Bool → Option R) : Option R :=
  s_law22_AckShifts_26 cp n p0 p1 p2 v217 v218 v219 v220 (fun v227 => s_law22_AckShifts_27 cp n p0 p1 v217 v218 v219 v220 v227 (fun v232 => (kr v232)))
def s_law22_AckShifts_32 {R : Type} (cp : Nat → Nat → Bool) (n : Nat) (p0 : SAsked) (p1 : SSegment) (p2 v217 v218 v219 v220 : Int) (kr : Bool → Option R) : Option R :=
  s_law22_AckShifts_12 cp n p0 p1 p2 v217 v218 v219 v220 (s_law22_AckShifts_30 cp n p0 p1 p2 v217 v218 v219 v220 (fun v233 => (kr v233)))
def s_law22_AckShifts_34 {R : Type} (cp : Nat → Nat → Bool) (n : Nat) (p0 : SAsked) (p1 : SSegment) (p2 p3 v217 v218 : Int) (kr : Bool → Option R) : Option R :=
  s_law22_AckShifts_10 cp n p0 p1 p2 p3 v217 v218 (fun v219 v220 => s_law22_AckShifts_32 cp n p0 p1 p2 v217 v218 v219 v220 (fun v234 => (kr v234)))
def s_law22_AckShifts_36 {R : Type} (cp : Nat → Nat → Bool) (n : Nat) (p0 : SAsked) (p1 : SSegment) (p2 p3 : Int) (kr : Bool → Option R) : Option R :=
  s_law22_AckShifts_8 cp n p0 p1 p2 p3 (fun v217 v218 => s_law22_AckShifts_34 cp n p0 p1 p2 p3 v217 v218 (fun v235 => (kr v235)))
def s_law22_AckShifts_38 {R : Type} (cp : Nat → Nat → Bool) (n : Nat) (p0 : SAsked) (p1 : SSegment) (p2 p3 : Int) (kr : Bool → Option R) : Option R :=
  s_law22_AckShifts_6 cp n p0 p1 p2 p3 (s_law22_AckShifts_36 cp n p0 p1 p2 p3 (fun v236 => (kr v236)))
def s_law22_AckShifts_40 {R : Type} (cp : Nat → Nat → Bool) (n : Nat) (p0 : SAsked) (p1 : SSegment) (p2 p3 : Int) (kr : Bool → Option R) : Option R :=
  s_law22_AckShifts_4 cp n p0 p1 p2 p3 (s_law22_AckShifts_38 cp n p0 p1 p2 p3 (fun v237 => (kr v237))) (fun v216 => (kr v216))
def s_law22_AckShifts_42 {R : Type} (cp : Nat → Nat → Bool) (n : Nat) (p0 : SAsked) (p1 : SSegment) (p2 p3 : Int) (kr : Bool → Option R) : Option R :=
  s_law22_AckShifts_1 cp n p0 p1 p2 p3 (s_law22_AckShifts_40 cp n p0 p1 p2 p3 (fun v238 => (kr v238)))
def G_law22_AckShifts {R : Type} (cp : Nat → Nat → Bool) : Nat → SAsked → SSegment → Int → Int → (Bool → Option R) → Option R
  | 0, _, _, _, _, _ => none
  | n + 1, p0, p1, p2, p3, k =>
    s_law22_AckShifts_42 cp n p0 p1 p2 p3 (fun v239 => k v239)
def ca_seq_Diff {R : Type} (cp : Nat → Nat → Bool) (n : Nat) (av : Fr) (cs : List Fr) (k : Ret2 RW → Option R) : Option R := match av, cs with
  | [y0, y1], [] => (dI .u32 y0).bind fun p0 => (dI .u32 y1).bind fun p1 => G_seq_Diff cp n p0 p1 (fun r0 => k ⟨(tL r0), []⟩)
  | _, _ => none
def ca_seq_Sum {R : Type} (cp : Nat → Nat → Bool) (n : Nat) (av : Fr) (cs : List Fr) (k : Ret2 RW → Option R) : Option R := match av, cs with
  | [y0, y1], [] => (dI .i64 y0).bind fun p0 => (dI .i64 y1).bind fun p1 => G_seq_Sum cp n p0 p1 (fun r0 => k ⟨(tL r0), []⟩)
  | _, _ => none
def ca_seq_Unwrap {R : Type} (cp : Nat → Nat → Bool) (n : Nat) (av : Fr) (cs : List Fr) (k : Ret2 RW → Option R) : Option R := match av, cs with
  | [y0, y1], [] => (dI .i64 y0).bind fun p0 => (dI .u32 y1).bind fun p1 => G_seq_Unwrap cp n p0 p1 (fun r0 => k ⟨(tL r0), []⟩)
  | _, _ => none
def ca_ack_counts {R : Type} (cp : Nat → Nat → Bool) (n : Nat) (av : Fr) (cs : List Fr) (k : Ret2 RW → Option R) : Option R := match av, cs with
  | [y0, y1], [] => (dA y0).bind fun c0_ => (dAsked c0_).bind fun p0 => (dA y1).bind fun c1_ => (dSegment c1_).bind fun p1 => G_ack_counts cp n p0 p1 (fun r0 r1 => k ⟨.tup [(tL r0), (tB r1)], []⟩)
  | _, _ => none
def ca_ack_Weigh_1 {R : Type} (cp : Nat → Nat → Bool) (n : Nat) (av : Fr) (cs : List Fr) (k : Ret2 RW → Option R) : Option R := match av, cs with
  | [y0, y1], [w0] => (dI .u32 y0).bind fun p0 => (dP 11 0 y1).bind fun _ => (dAsked w0).bind fun q0 => G_ack_Weigh_1 cp n p0 q0 (fun r0 r1 => k ⟨(tL r0), [(eAsked r1)]⟩)
  | _, _ => none
def ca_ack_offsets {R : Type} (cp : Nat → Nat → Bool) (n : Nat) (av : Fr) (cs : List Fr) (k : Ret2 RW → Option R) : Option R := match av, cs with
  | [y0, y1], [w0] => (dRBlock false y0).bind fun p0 => (dC 13 [(34, 0)] y1).bind fun _ => (dAsked w0).bind fun q0 => G_ack_offsets cp n p0 q0 (fun r0 r1 => k ⟨.row true (.rSpan r0), [(eAsked r1)]⟩)
  | _, _ => none
def ca_ack_twice {R : Type} (cp : Nat → Nat → Bool) (n : Nat) (av : Fr) (cs : List Fr) (k : Ret2 RW → Option R) : Option R := match av, cs with
  | [y0, y1], [] => (dRSpan false y0).bind fun p0 => (dI .i64 y1).bind fun p1 => G_ack_twice cp n p0 p1 (fun r0 => k ⟨(tB r0), []⟩)
  | _, _ => none
def ca_span_may {R : Type} (cp : Nat → Nat → Bool) (n : Nat) (av : Fr) (cs : List Fr) (k : Ret2 RW → Option R) : Option R := match av, cs with
  | [y0], [] => (dA y0).bind fun c0_ => (dSpan c0_).bind fun p0 => G_span_may cp n p0 (fun r0 => k ⟨(tB r0), []⟩)
  | _, _ => none
def ca_span_Check {R : Type} (cp : Nat → Nat → Bool) (n : Nat) (av : Fr) (cs : List Fr) (k : Ret2 RW → Option R) : Option R := match av, cs with
  | [y0], [] => (dRSpan false y0).bind fun p0 => G_span_Check cp n p0 (fun r0 => k ⟨(tL r0), []⟩)
  | _, _ => none
def ca_span_right {R : Type} (cp : Nat → Nat → Bool) (n : Nat) (av : Fr) (cs : List Fr) (k : Ret2 RW → Option R) : Option R := match av, cs with
  | [y0, y1], [] => (dRSpan false y0).bind fun p0 => (dA y1).bind fun c1_ => (dSpan c1_).bind fun p1 => G_span_right cp n p0 p1 (fun r0 => k ⟨(tL r0), []⟩)
  | _, _ => none
def ca_slices_Clone_Span {R : Type} (cp : Nat → Nat → Bool) (n : Nat) (av : Fr) (cs : List Fr) (k : Ret2 RW → Option R) : Option R := match av, cs with
  | [y0], [] => (dRSpan false y0).bind fun p0 => G_slices_Clone_Span cp n p0 (fun r0 => k ⟨.row true (.rSpan r0), []⟩)
  | _, _ => none
def ca_span_Add {R : Type} (cp : Nat → Nat → Bool) (n : Nat) (av : Fr) (cs : List Fr) (k : Ret2 RW → Option R) : Option R := match av, cs with
  | [y0, y1], [] => (dRSpan false y0).bind fun p0 => (dA y1).bind fun c1_ => (dSpan c1_).bind fun p1 => G_span_Add cp n p0 p1 (fun r0 r1 => k ⟨.tup [.row true (.rSpan r0), (tL r1)], []⟩)
  | _, _ => none
def ca_ack_Weigh {R : Type} (cp : Nat → Nat → Bool) (n : Nat) (av : Fr) (cs : List Fr) (k : Ret2 RW → Option R) : Option R := match av, cs with
  | [y0, y1], [] => (dA y0).bind fun c0_ => (dAsked c0_).bind fun p0 => (dA y1).bind fun c1_ => (dSegment c1_).bind fun p1 => G_ack_Weigh cp n p0 p1 (fun r0 => k ⟨.agg (eHeardt r0), []⟩)
  | _, _ => none
def ca_law22_heads {R : Type} (cp : Nat → Nat → Bool) (n : Nat) (av : Fr) (cs : List Fr) (k : Ret2 RW → Option R) : Option R := match av, cs with
  | [], [] => G_law22_heads cp n (fun r0 => k ⟨(tB r0), []⟩)
  | _, _ => none
def ca_law22_AckWithin {R : Type} (cp : Nat → Nat → Bool) (n : Nat) (av : Fr) (cs : List Fr) (k : Ret2 RW → Option R) : Option R := match av, cs with
  | [y0, y1], [] => (dA y0).bind fun c0_ => (dAsked c0_).bind fun p0 => (dA y1).bind fun c1_ => (dSegment c1_).bind fun p1 => G_law22_AckWithin cp n p0 p1 (fun r0 => k ⟨(tB r0), []⟩)
  | _, _ => none
def ca_ref06_Same {R : Type} (cp : Nat → Nat → Bool) (n : Nat) (av : Fr) (cs : List Fr) (k : Ret2 RW → Option R) : Option R := match av, cs with
  | [y0, y1], [] => (dRSpan false y0).bind fun p0 => (dRSpan false y1).bind fun p1 => G_ref06_Same cp n p0 p1 (fun r0 => k ⟨(tB r0), []⟩)
  | _, _ => none
def ca_ref22_Same {R : Type} (cp : Nat → Nat → Bool) (n : Nat) (av : Fr) (cs : List Fr) (k : Ret2 RW → Option R) : Option R := match av, cs with
  | [y0, y1], [] => (dA y0).bind fun c0_ => (dHeard c0_).bind fun p0 => (dA y1).bind fun c1_ => (dHeard c1_).bind fun p1 => G_ref22_Same cp n p0 p1 (fun r0 => k ⟨(tB r0), []⟩)
  | _, _ => none
def ca_law22_AckPlain {R : Type} (cp : Nat → Nat → Bool) (n : Nat) (av : Fr) (cs : List Fr) (k : Ret2 RW → Option R) : Option R := match av, cs with
  | [y0, y1], [] => (dA y0).bind fun c0_ => (dAsked c0_).bind fun p0 => (dA y1).bind fun c1_ => (dSegment c1_).bind fun p1 => G_law22_AckPlain cp n p0 p1 (fun r0 => k ⟨(tB r0), []⟩)
  | _, _ => none
def ca_law22_AckShifts {R : Type} (cp : Nat → Nat → Bool) (n : Nat) (av : Fr) (cs : List Fr) (k : Ret2 RW → Option R) : Option R := match av, cs with
  | [y0, y1, y2, y3], [] => (dA y0).bind fun c0_ => (dAsked c0_).bind fun p0 => (dA y1).bind fun c1_ => (dSegment c1_).bind fun p1 => (dI .u32 y2).bind fun p2 => (dI .u32 y3).bind fun p3 => G_law22_AckShifts cp n p0 p1 p2 p3 (fun r0 => k ⟨(tB r0), []⟩)
  | _, _ => none
def callP {R : Type} (cp : Nat → Nat → Bool) (n : Nat) (id : Nat) (av : Fr) (cs : List Fr) (k : Ret2 RW → Option R) : Option R := match id with
  | 11 => ca_seq_Diff cp n av cs k
  | 19 => ca_seq_Sum cp n av cs k
  | 14 => ca_seq_Unwrap cp n av cs k
  | 10 => ca_ack_counts cp n av cs k
  | 1007 => ca_ack_Weigh_1 cp n av cs k
  | 1006 => ca_ack_offsets cp n av cs k
  | 15 => ca_ack_twice cp n av cs k
  | 18 => ca_span_may cp n av cs k
  | 9 => ca_span_Check cp n av cs k
  | 20 => ca_span_right cp n av cs k
  | 21 => ca_slices_Clone_Span cp n av cs k
  | 16 => ca_span_Add cp n av cs k
  | 6 => ca_ack_Weigh cp n av cs k
  | 8 => ca_law22_heads cp n av cs k
  | 4 => ca_law22_AckWithin cp n av cs k
  | 17 => ca_ref06_Same cp n av cs k
  | 7 => ca_ref22_Same cp n av cs k
  | 3 => ca_law22_AckPlain cp n av cs k
  | 5 => ca_law22_AckShifts cp n av cs k
  | _ => none
end
end Go.Proofs.Ytfdopmobhphdbaa.M
