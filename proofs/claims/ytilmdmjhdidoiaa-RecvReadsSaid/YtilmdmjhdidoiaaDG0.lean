/- The values of the program's functions, and the functions, plain. -/
import Derived.Test.YtilmdmjhdidoiaaMachX
set_option maxRecDepth 100000
set_option linter.unusedVariables false
namespace Go.Proofs.Ytilmdmjhdidoiaa.M
open Go
noncomputable section
abbrev CP := Nat → Nat → Bool
variable {R : Type}
def str_ : ByteArray := ⟨#[]⟩
def str_abcd : ByteArray := ⟨#[97, 98, 99, 100]⟩
def str_abc : ByteArray := ⟨#[97, 98, 99]⟩
def str_d : ByteArray := ⟨#[100]⟩
def zuint8 : Int := 0
structure SPiece where
  xFrom : Int
  xData : (List Int)
def zPiece : SPiece := ⟨0, []⟩
structure SSpan where
  xFrom : Int
  xTo : Int
def zSpan : SSpan := ⟨0, 0⟩
structure SRecv where
  xNext : Int
  xUnread : (List Int)
  xLate : (List SPiece)
  xCap : Int
  xShift : Int
  xEdge : Int
  xRecent : Int
  xStamps : Bool
  xSacks : Bool
  xFin : Int
  xDone : Bool
  xFirst : (List SSpan)
  xIrs : Int
  xOwn : Int
  xStamp : Bool
def zRecv : SRecv := ⟨0, [], [], 0, 0, 0, 0, false, false, 0, false, [], 0, 0, false⟩
structure SBlock where
  xFrom : Int
  xTo : Int
def zBlock : SBlock := ⟨0, 0⟩
structure SSegment where
  xSrcPort : Int
  xDstPort : Int
  xSeq : Int
  xAck : Int
  xFlags : Int
  xWin : Int
  xUrg : Int
  xMss : Int
  xScale : Int
  xSackOk : Bool
  xStamped : Bool
  xVal : Int
  xEcr : Int
  xSacks : (List SBlock)
  xData : (List Int)
def zSegment : SSegment := ⟨0, 0, 0, 0, 0, 0, 0, 0, 0, false, false, 0, 0, [], []⟩
inductive RW where
  | ruint8 (xs : List Int)
  | rPiece (xs : List SPiece)
  | rSpan (xs : List SSpan)
  | rBlock (xs : List SBlock)

abbrev Fr := List (TV RW)
abbrev FF := FT RW
def tI (k : IntKind) (n : Int) : TV RW := .sc (.int k n)
def tL (n : Int) : TV RW := .sc (.int .i64 n)
def tB (b : Bool) : TV RW := .sc (.bool b)
def dT : Nat → Fr → Fr
  | 0, l => l
  | n + 1, l => .dead :: dT n l
def dc : Fr := dT 16 []
def eRecv (x : SRecv) : List (TV RW) := [(tL x.xNext), .row false (.ruint8 x.xUnread), .row false (.rPiece x.xLate), (tL x.xCap), (tL x.xShift), (tL x.xEdge), (tI .u32 x.xRecent), (tB x.xStamps), (tB x.xSacks), (tL x.xFin), (tB x.xDone), .row false (.rSpan x.xFirst), (tI .u32 x.xIrs), (tI .u32 x.xOwn), (tB x.xStamp)]
def eRecvt (x : SRecv) : List (TV RW) := [(tL x.xNext), .row true (.ruint8 x.xUnread), .row true (.rPiece x.xLate), (tL x.xCap), (tL x.xShift), (tL x.xEdge), (tI .u32 x.xRecent), (tB x.xStamps), (tB x.xSacks), (tL x.xFin), (tB x.xDone), .row true (.rSpan x.xFirst), (tI .u32 x.xIrs), (tI .u32 x.xOwn), (tB x.xStamp)]
def ePiece (x : SPiece) : List (TV RW) := [(tL x.xFrom), .row false (.ruint8 x.xData)]
def ePiecet (x : SPiece) : List (TV RW) := [(tL x.xFrom), .row true (.ruint8 x.xData)]
def eSpan (x : SSpan) : List (TV RW) := [(tL x.xFrom), (tL x.xTo)]
def eSegment (x : SSegment) : List (TV RW) := [(tL x.xSrcPort), (tL x.xDstPort), (tI .u32 x.xSeq), (tI .u32 x.xAck), (tL x.xFlags), (tL x.xWin), (tL x.xUrg), (tL x.xMss), (tL x.xScale), (tB x.xSackOk), (tB x.xStamped), (tI .u32 x.xVal), (tI .u32 x.xEcr), .row false (.rBlock x.xSacks), .row false (.ruint8 x.xData)]
def eSegmentt (x : SSegment) : List (TV RW) := [(tL x.xSrcPort), (tL x.xDstPort), (tI .u32 x.xSeq), (tI .u32 x.xAck), (tL x.xFlags), (tL x.xWin), (tL x.xUrg), (tL x.xMss), (tL x.xScale), (tB x.xSackOk), (tB x.xStamped), (tI .u32 x.xVal), (tI .u32 x.xEcr), .row true (.rBlock x.xSacks), .row true (.ruint8 x.xData)]
def eBlock (x : SBlock) : List (TV RW) := [(tI .u32 x.xFrom), (tI .u32 x.xTo)]
def euint8 (x : Int) : List (TV RW) := [(tI .u8 x)]
def cuint8 (x : Int) : List AV := [.sc (.int .u8 x)]
def cPiece (x : SPiece) : List AV := [.sc (.int .i64 x.xFrom), .row false 1 x.xData.length (rg cuint8 zuint8 x.xData)]
def cSpan (x : SSpan) : List AV := [.sc (.int .i64 x.xFrom), .sc (.int .i64 x.xTo)]
def cBlock (x : SBlock) : List AV := [.sc (.int .u32 x.xFrom), .sc (.int .u32 x.xTo)]
def dOne : Fr → Option (TV RW)
  | [x] => some x
  | _ => none
def dI (kd : IntKind) : TV RW → Option Int
  | .sc (.int k a) => cond (decide (k = kd)) (some a) none
  | _ => none
def dB : TV RW → Option Bool
  | .sc (.bool b) => some b
  | _ => none
def dS : TV RW → Option ByteArray
  | .sc (.string b) => some b
  | _ => none
def dA : TV RW → Option Fr
  | .agg cs => some cs
  | _ => none
def dP (h j : Nat) : TV RW → Option Unit
  | .ptr a b => cond (Nat.beq a h && Nat.beq b j) (some ()) none
  | _ => none
def dC (f : Nat) (cs : List (Nat × Nat)) : TV RW → Option Unit
  | .clo a b => cond (Nat.beq a f && decide (b = cs)) (some ()) none
  | _ => none
def dUPiece : TV RW → Option (List SPiece)
  | .un none (.rPiece xs) => some xs
  | _ => none
def dXPiece : TV RW → Option SPiece
  | .row _ (.rPiece [x]) => some x
  | _ => none
def dRuint8 (fl : Bool) : TV RW → Option (List Int)
  | .row a (.ruint8 xs) => cond (a == fl) (some xs) none
  | _ => none
def dRPiece (fl : Bool) : TV RW → Option (List SPiece)
  | .row a (.rPiece xs) => cond (a == fl) (some xs) none
  | _ => none
def dRSpan (fl : Bool) : TV RW → Option (List SSpan)
  | .row a (.rSpan xs) => cond (a == fl) (some xs) none
  | _ => none
def dRBlock (fl : Bool) : TV RW → Option (List SBlock)
  | .row a (.rBlock xs) => cond (a == fl) (some xs) none
  | _ => none
def dRecv : Fr → Option SRecv
  | [y0, y1, y2, y3, y4, y5, y6, y7, y8, y9, y10, y11, y12, y13, y14] => (dI .i64 y0).bind fun a0 => (dRuint8 false y1).bind fun a1 => (dRPiece false y2).bind fun a2 => (dI .i64 y3).bind fun a3 => (dI .i64 y4).bind fun a4 => (dI .i64 y5).bind fun a5 => (dI .u32 y6).bind fun a6 => (dB y7).bind fun a7 => (dB y8).bind fun a8 => (dI .i64 y9).bind fun a9 => (dB y10).bind fun a10 => (dRSpan false y11).bind fun a11 => (dI .u32 y12).bind fun a12 => (dI .u32 y13).bind fun a13 => (dB y14).bind fun a14 => some ⟨a0, a1, a2, a3, a4, a5, a6, a7, a8, a9, a10, a11, a12, a13, a14⟩
  | _ => none
def dRecvt : Fr → Option SRecv
  | [y0, y1, y2, y3, y4, y5, y6, y7, y8, y9, y10, y11, y12, y13, y14] => (dI .i64 y0).bind fun a0 => (dRuint8 true y1).bind fun a1 => (dRPiece true y2).bind fun a2 => (dI .i64 y3).bind fun a3 => (dI .i64 y4).bind fun a4 => (dI .i64 y5).bind fun a5 => (dI .u32 y6).bind fun a6 => (dB y7).bind fun a7 => (dB y8).bind fun a8 => (dI .i64 y9).bind fun a9 => (dB y10).bind fun a10 => (dRSpan true y11).bind fun a11 => (dI .u32 y12).bind fun a12 => (dI .u32 y13).bind fun a13 => (dB y14).bind fun a14 => some ⟨a0, a1, a2, a3, a4, a5, a6, a7, a8, a9, a10, a11, a12, a13, a14⟩
  | _ => none
def dPiece : Fr → Option SPiece
  | [y0, y1] => (dI .i64 y0).bind fun a0 => (dRuint8 false y1).bind fun a1 => some ⟨a0, a1⟩
  | _ => none
def dPiecet : Fr → Option SPiece
  | [y0, y1] => (dI .i64 y0).bind fun a0 => (dRuint8 true y1).bind fun a1 => some ⟨a0, a1⟩
  | _ => none
def dSpan : Fr → Option SSpan
  | [y0, y1] => (dI .i64 y0).bind fun a0 => (dI .i64 y1).bind fun a1 => some ⟨a0, a1⟩
  | _ => none
def dSegment : Fr → Option SSegment
  | [y0, y1, y2, y3, y4, y5, y6, y7, y8, y9, y10, y11, y12, y13, y14] => (dI .i64 y0).bind fun a0 => (dI .i64 y1).bind fun a1 => (dI .u32 y2).bind fun a2 => (dI .u32 y3).bind fun a3 => (dI .i64 y4).bind fun a4 => (dI .i64 y5).bind fun a5 => (dI .i64 y6).bind fun a6 => (dI .i64 y7).bind fun a7 => (dI .i64 y8).bind fun a8 => (dB y9).bind fun a9 => (dB y10).bind fun a10 => (dI .u32 y11).bind fun a11 => (dI .u32 y12).bind fun a12 => (dRBlock false y13).bind fun a13 => (dRuint8 false y14).bind fun a14 => some ⟨a0, a1, a2, a3, a4, a5, a6, a7, a8, a9, a10, a11, a12, a13, a14⟩
  | _ => none
def dSegmentt : Fr → Option SSegment
  | [y0, y1, y2, y3, y4, y5, y6, y7, y8, y9, y10, y11, y12, y13, y14] => (dI .i64 y0).bind fun a0 => (dI .i64 y1).bind fun a1 => (dI .u32 y2).bind fun a2 => (dI .u32 y3).bind fun a3 => (dI .i64 y4).bind fun a4 => (dI .i64 y5).bind fun a5 => (dI .i64 y6).bind fun a6 => (dI .i64 y7).bind fun a7 => (dI .i64 y8).bind fun a8 => (dB y9).bind fun a9 => (dB y10).bind fun a10 => (dI .u32 y11).bind fun a11 => (dI .u32 y12).bind fun a12 => (dRBlock true y13).bind fun a13 => (dRuint8 true y14).bind fun a14 => some ⟨a0, a1, a2, a3, a4, a5, a6, a7, a8, a9, a10, a11, a12, a13, a14⟩
  | _ => none
def dBlock : Fr → Option SBlock
  | [y0, y1] => (dI .u32 y0).bind fun a0 => (dI .u32 y1).bind fun a1 => some ⟨a0, a1⟩
  | _ => none
def puint8_ : Fr → Option (List Int)
  | [] => some []
  | y0 :: r => (dI .u8 y0).bind fun a0 => (puint8_ r).bind fun xs => some (a0 :: xs)

def pPiece_ : Fr → Option (List SPiece)
  | [] => some []
  | y0 :: y1 :: r => (dI .i64 y0).bind fun a0 => (dRuint8 false y1).bind fun a1 => (pPiece_ r).bind fun xs => some (⟨a0, a1⟩ :: xs)
  | _ => none

def pSpan_ : Fr → Option (List SSpan)
  | [] => some []
  | y0 :: y1 :: r => (dI .i64 y0).bind fun a0 => (dI .i64 y1).bind fun a1 => (pSpan_ r).bind fun xs => some (⟨a0, a1⟩ :: xs)
  | _ => none

def pBlock_ : Fr → Option (List SBlock)
  | [] => some []
  | y0 :: y1 :: r => (dI .u32 y0).bind fun a0 => (dI .u32 y1).bind fun a1 => (pBlock_ r).bind fun xs => some (⟨a0, a1⟩ :: xs)
  | _ => none

def U : Uni RW where
  sz := fun r => match r with
    | .ruint8 xs => 1
    | .rPiece xs => 2
    | .rSpan xs => 2
    | .rBlock xs => 2
  len := fun r => match r with
    | .ruint8 xs => xs.length
    | .rPiece xs => xs.length
    | .rSpan xs => xs.length
    | .rBlock xs => xs.length
  getA := fun r => match r with
    | .ruint8 xs => rg cuint8 zuint8 xs
    | .rPiece xs => rg cPiece zPiece xs
    | .rSpan xs => rg cSpan zSpan xs
    | .rBlock xs => rg cBlock zBlock xs
  get := fun r i => match r with
    | .ruint8 xs => euint8 (xs.getD i zuint8)
    | .rPiece xs => ePiece (xs.getD i zPiece)
    | .rSpan xs => eSpan (xs.getD i zSpan)
    | .rBlock xs => eBlock (xs.getD i zBlock)
  app := fun r q => match r with
    | .ruint8 xs => (match q with
      | .ruint8 ys => some (.ruint8 (xs ++ ys))
      | _ => none)
    | .rPiece xs => (match q with
      | .rPiece ys => some (.rPiece (xs ++ ys))
      | _ => none)
    | .rSpan xs => (match q with
      | .rSpan ys => some (.rSpan (xs ++ ys))
      | _ => none)
    | .rBlock xs => (match q with
      | .rBlock ys => some (.rBlock (xs ++ ys))
      | _ => none)
  sub := fun lo n r => match r with
    | .ruint8 xs => .ruint8 (List.take n (xs.drop lo))
    | .rPiece xs => .rPiece (List.take n (xs.drop lo))
    | .rSpan xs => .rSpan (List.take n (xs.drop lo))
    | .rBlock xs => .rBlock (List.take n (xs.drop lo))
  szt := fun t => match t with
    | 5 => 1
    | 74 => 2
    | 78 => 2
    | 62 => 2
    | _ => 0
  zt := fun t => match t with
    | 5 => euint8 zuint8
    | 74 => ePiece zPiece
    | 78 => eSpan zSpan
    | 62 => eBlock zBlock
    | _ => []
  lit := fun t n L => match t with
    | 5 => (puint8_ L).bind fun xs => cond (Nat.beq xs.length n) (some (.ruint8 xs)) none
    | 74 => (pPiece_ L).bind fun xs => cond (Nat.beq xs.length n) (some (.rPiece xs)) none
    | 78 => (pSpan_ L).bind fun xs => cond (Nat.beq xs.length n) (some (.rSpan xs)) none
    | 62 => (pBlock_ L).bind fun xs => cond (Nat.beq xs.length n) (some (.rBlock xs)) none
    | _ => none
  set := fun r q off cs => match r with
    | .ruint8 xs => none
    | .rPiece xs => (dPiece (splice2 (ePiece (xs.getD q zPiece)) off cs)).bind fun x => some (.rPiece (xs.set q x))
    | .rSpan xs => (dSpan (splice2 (eSpan (xs.getD q zSpan)) off cs)).bind fun x => some (.rSpan (xs.set q x))
    | .rBlock xs => (dBlock (splice2 (eBlock (xs.getD q zBlock)) off cs)).bind fun x => some (.rBlock (xs.set q x))
  str := fun r => match r with
    | .ruint8 xs => some xs
    | .rPiece xs => none
    | .rSpan xs => none
    | .rBlock xs => none
/-! tideway/recv.reach -/
def G27 (cp : CP) : Nat → SRecv → (Int → Option R) → Option R
  | 0, _, _ => none
  | n + 1, p0, k =>
    k (wr .i64 ((wr .i64 (p0.xNext - (p0.xUnread.length : Int))) + p0.xCap))
/-! tideway/recv.limit -/
def G53 (cp : CP) : Nat → SRecv → (Int → Option R) → Option R
  | 0, _, _ => none
  | n + 1, p0, k =>
    G27 cp n p0 (fun r3 => k (mn r3 562949953421312))
/-! tideway/recv.late -/
def G55 (cp : CP) : Nat → SRecv → (SRecv → Option R) → Option R
  | 0, _, _ => none
  | n + 1, p0, k =>
    k p0
/-! tideway/recv.of -/
def G71 (cp : CP) : Nat → SPiece → (SSpan → Option R) → Option R
  | 0, _, _ => none
  | n + 1, p0, k =>
    k (SSpan.mk p0.xFrom (wr .i64 (p0.xFrom + (p0.xData.length : Int))))
/-! slices.AppendSeq[[]tideway/api.Span,tideway/api.Span] -/
def s1008_1 (cp : CP) (n : Nat) (p0 : (List SSpan)) (q0 : SRecv) (kn : Option R) : Option R :=
  kn
def s1008_3 (cp : CP) (n : Nat) (p0 : (List SSpan)) (q0 : SRecv) (kn : Option R) : Option R :=
  kn
def s1008_7 (cp : CP) (n : Nat) (p0 : (List SSpan)) (q0 : SRecv) (kn : Int → Option R) : Option R :=
  kn (q0.xLate.length : Int)
def s1008_9 (cp : CP) (n : Nat) (q0 : SRecv) (v9 v10 : Int) (v11 : (List SSpan)) (kn : Option R) (ke0 : Option R) : Option R :=
  cond (decide (v10 < v9)) (kn) (ke0)
def s1008_12 (cp : CP) (n : Nat) (q0 : SRecv) (v9 v10 : Int) (v11 : (List SSpan)) (kn : Int → (List Int) → Option R) : Option R :=
  cond (decide (0 ≤ v10)) (cond (decide (v10 < (q0.xLate.length : Int))) (kn ((q0.xLate.getD (Int.toNat v10) zPiece).xFrom) ((q0.xLate.getD (Int.toNat v10) zPiece).xData)) (none)) (none)
def s1008_14 (cp : CP) (n : Nat) (q0 : SRecv) (v9 v10 : Int) (v11 : (List SSpan)) (v12 : Int) (v13 : (List Int)) (ka : Int → Int → Option R) : Option R :=
  G71 cp n (SPiece.mk v12 v13) (fun r14 => ka r14.xFrom r14.xTo)
def s1008_16 (cp : CP) (n : Nat) (q0 : SRecv) (v11 : (List SSpan)) (v12 : Int) (v13 : (List Int)) (v15 v16 : Int) (kn : (List SSpan) → Option R) : Option R :=
  cond (cp (v11.length + [(SSpan.mk v15 v16)].length) 16) (kn (v11 ++ [(SSpan.mk v15 v16)])) (none)
def s1008_22 (cp : CP) (n : Nat) (q0 : SRecv) (v9 v10 : Int) (v11 : (List SSpan)) (v12 : Int) (v13 : (List Int)) (kn : (List SSpan) → Option R) : Option R :=
  s1008_14 cp n q0 v9 v10 v11 v12 v13 (fun v15 v16 => s1008_16 cp n q0 v11 v12 v13 v15 v16 (fun v17 => kn v17))
def s1008_23 (cp : CP) (n : Nat) (q0 : SRecv) (v9 v10 : Int) (v18 : (List SSpan)) (kn : Option R) : Option R :=
  kn
def s1008_26 (cp : CP) (n : Nat) (q0 : SRecv) (v9 v10 : Int) (v11 : (List SSpan)) (v12 : Int) (v13 : (List Int)) (kn : (List SSpan) → Option R) : Option R :=
  s1008_22 cp n q0 v9 v10 v11 v12 v13 (fun v18 => s1008_23 cp n q0 v9 v10 v18 (kn v18))
def s1008_28 (cp : CP) (n : Nat) (q0 : SRecv) (v9 v10 : Int) (v11 : (List SSpan)) (kn : (List SSpan) → Option R) : Option R :=
  s1008_12 cp n q0 v9 v10 v11 (fun v12 v13 => s1008_26 cp n q0 v9 v10 v11 v12 v13 (fun v19 => (kn v19)))
def s1008_30 (cp : CP) (n : Nat) (q0 : SRecv) (v9 v10 : Int) (v11 : (List SSpan)) (kn : (List SSpan) → Option R) : Option R :=
  s1008_28 cp n q0 v9 v10 v11 (fun v20 => (kn v20))
def s1008_31 (cp : CP) (n : Nat) (q0 : SRecv) (v9 v10 : Int) (v21 : (List SSpan)) (kn : Int → Option R) : Option R :=
  kn (wr .i64 (v10 + 1))
def s1008_34 (cp : CP) (n : Nat) (q0 : SRecv) (v9 v10 : Int) (v11 : (List SSpan)) (kn : Int → (List SSpan) → Option R) : Option R :=
  s1008_30 cp n q0 v9 v10 v11 (fun v21 => s1008_31 cp n q0 v9 v10 v21 (fun v22 => (kn v22 v21)))
def s1008_36 (cp : CP) (n : Nat) (q0 : SRecv) (v9 v10 : Int) (v11 : (List SSpan)) (kn : Int → (List SSpan) → Option R) (ke0 : Option R) : Option R :=
  s1008_9 cp n q0 v9 v10 v11 (s1008_34 cp n q0 v9 v10 v11 (fun v23 v24 => (kn v23 v24))) ke0
def l1008_38 (cp : CP) (n : Nat) : Nat → SRecv → Int → Int → (List SSpan) → ((List SSpan) → Option R) → Option R
  | 0, _, _, _, _, _ => none
  | m + 1, q0, v9, v10, v11, ke0 =>
    s1008_36 cp n q0 v9 v10 v11 (fun v25 v26 => l1008_38 cp n m q0 v9 v25 v26 ke0) (ke0 v11)
def s1008_39 (cp : CP) (n : Nat) (p0 : (List SSpan)) (q0 : SRecv) (v9 : Int) (ke0 : (List SSpan) → Option R) : Option R :=
  l1008_38 cp n n q0 v9 0 p0 ke0
def s1008_41 (cp : CP) (n : Nat) (p0 : (List SSpan)) (q0 : SRecv) (v9 : Int) (kn : (List SSpan) → Option R) : Option R :=
  s1008_39 cp n p0 q0 v9 (fun v27 => (kn v27))
def s1008_43 (cp : CP) (n : Nat) (p0 : (List SSpan)) (q0 : SRecv) (kn : (List SSpan) → Option R) : Option R :=
  s1008_7 cp n p0 q0 (fun v9 => s1008_41 cp n p0 q0 v9 (fun v28 => (kn v28)))
def s1008_46 (cp : CP) (n : Nat) (p0 : (List SSpan)) (q0 : SRecv) (kn : (List SSpan) → Option R) : Option R :=
  s1008_43 cp n p0 q0 (fun v29 => (kn v29))
def s1008_48 (cp : CP) (n : Nat) (p0 : (List SSpan)) (q0 : SRecv) (kn : (List SSpan) → Option R) : Option R :=
  s1008_46 cp n p0 q0 (fun v30 => (kn v30))
def s1008_50 (cp : CP) (n : Nat) (p0 : (List SSpan)) (q0 : SRecv) (kn : (List SSpan) → Option R) : Option R :=
  s1008_3 cp n p0 q0 (s1008_48 cp n p0 q0 (fun v31 => (kn v31)))
def s1008_51 (cp : CP) (n : Nat) (q0 : SRecv) (v32 : (List SSpan)) (kr : Option R) : Option R :=
  kr
def s1008_54 (cp : CP) (n : Nat) (p0 : (List SSpan)) (q0 : SRecv) (kr : (List SSpan) → Option R) : Option R :=
  s1008_50 cp n p0 q0 (fun v32 => s1008_51 cp n q0 v32 (kr v32))
def s1008_56 (cp : CP) (n : Nat) (p0 : (List SSpan)) (q0 : SRecv) (kr : (List SSpan) → Option R) : Option R :=
  s1008_1 cp n p0 q0 (s1008_54 cp n p0 q0 (fun v33 => (kr v33)))
def G1008 (cp : CP) : Nat → (List SSpan) → SRecv → ((List SSpan) → SRecv → Option R) → Option R
  | 0, _, _, _ => none
  | n + 1, p0, q0, k =>
    s1008_56 cp n p0 q0 (fun v34 => k v34 q0)
/-! slices.Collect[tideway/api.Span] -/
def G1007 (cp : CP) : Nat → SRecv → ((List SSpan) → SRecv → Option R) → Option R
  | 0, _, _ => none
  | n + 1, q0, k =>
    G1008 cp n [] q0 (fun r35 r36 => k r35 r36)
/-! slices.Index[[]tideway/api.Span,tideway/api.Span] -/
def s72_1 (cp : CP) (n : Nat) (p0 : (List SSpan)) (p1 : SSpan) (kn : Option R) : Option R :=
  kn
def s72_3 (cp : CP) (n : Nat) (p0 : (List SSpan)) (p1 : SSpan) (kn : Int → Option R) : Option R :=
  kn (p0.length : Int)
def s72_5 (cp : CP) (n : Nat) (p0 : (List SSpan)) (p1 : SSpan) (v41 v42 : Int) (kn : Int → Option R) (kr : Option R) (ke0 : Option R) : Option R :=
  cond (decide (v42 < v41)) (cond (decide (0 ≤ v42)) (cond (decide (v42 < (p0.length : Int))) (cond ((decide (p1.xFrom = (p0.getD (Int.toNat v42) zSpan).xFrom) && (decide (p1.xTo = (p0.getD (Int.toNat v42) zSpan).xTo) && true))) (kr) (kn (wr .i64 (v42 + 1)))) (none)) (none)) (ke0)
def l72_11 (cp : CP) (n : Nat) : Nat → (List SSpan) → SSpan → Int → Int → (Int → Option R) → (Option R) → Option R
  | 0, _, _, _, _, _, _ => none
  | m + 1, p0, p1, v41, v42, kr, ke0 =>
    s72_5 cp n p0 p1 v41 v42 (fun v43 => l72_11 cp n m p0 p1 v41 v43 kr ke0) (kr v42) ke0
def s72_12 (cp : CP) (n : Nat) (p0 : (List SSpan)) (p1 : SSpan) (v41 : Int) (kr : Int → Option R) (ke0 : Option R) : Option R :=
  l72_11 cp n n p0 p1 v41 0 kr ke0
def s72_14 (cp : CP) (n : Nat) (p0 : (List SSpan)) (p1 : SSpan) (v41 : Int) (kn : Option R) (kr : Int → Option R) : Option R :=
  s72_12 cp n p0 p1 v41 (fun v44 => (kr v44)) kn
def s72_16 (cp : CP) (n : Nat) (p0 : (List SSpan)) (p1 : SSpan) (kn : Option R) (kr : Int → Option R) : Option R :=
  s72_3 cp n p0 p1 (fun v41 => s72_14 cp n p0 p1 v41 kn (fun v45 => (kr v45)))
def s72_17 (cp : CP) (n : Nat) (kr : Option R) : Option R :=
  kr
def s72_20 (cp : CP) (n : Nat) (p0 : (List SSpan)) (p1 : SSpan) (kr : Int → Option R) : Option R :=
  s72_16 cp n p0 p1 (s72_17 cp n (kr (-1))) (fun v46 => (kr v46))
def s72_22 (cp : CP) (n : Nat) (p0 : (List SSpan)) (p1 : SSpan) (kr : Int → Option R) : Option R :=
  s72_1 cp n p0 p1 (s72_20 cp n p0 p1 (fun v47 => (kr v47)))
def G72 (cp : CP) : Nat → (List SSpan) → SSpan → (Int → Option R) → Option R
  | 0, _, _, _ => none
  | n + 1, p0, p1, k =>
    s72_22 cp n p0 p1 (fun v48 => k v48)
/-! slices.Contains[[]tideway/api.Span,tideway/api.Span] -/
def G56 (cp : CP) : Nat → (List SSpan) → SSpan → (Bool → Option R) → Option R
  | 0, _, _, _ => none
  | n + 1, p0, p1, k =>
    G72 cp n p0 p1 (fun r49 => k (decide (0 ≤ r49)))
/-! tideway/recv.pieces -/
def s28_1 (cp : CP) (n : Nat) (p0 : SRecv) (kn : Option R) : Option R :=
  kn
def s28_3 (cp : CP) (n : Nat) (p0 : SRecv) (kn : Int → Option R) : Option R :=
  kn (p0.xLate.length : Int)
def s28_5 (cp : CP) (n : Nat) (p0 : SRecv) (v2 v3 v4 : Int) (kn : Int → Int → Option R) (kr : Option R) (ke0 : Option R) : Option R :=
  cond (decide (v4 < v2)) (cond (decide (0 ≤ v4)) (cond (decide (v4 < (p0.xLate.length : Int))) (cond (decide ((((p0.xLate.getD (Int.toNat v4) zPiece).xData).length : Int) = 0)) (kr) (cond (decide (((p0.xLate.getD (Int.toNat v4) zPiece).xFrom) ≤ v3)) (kr) (G53 cp n p0 (fun r5 => cond (decide ((wr .i64 (r5 - (((p0.xLate.getD (Int.toNat v4) zPiece).xData).length : Int))) < ((p0.xLate.getD (Int.toNat v4) zPiece).xFrom))) (kr) (cond (decide (0 ≤ p0.xFin)) (cond (decide ((wr .i64 (p0.xFin - (((p0.xLate.getD (Int.toNat v4) zPiece).xData).length : Int))) < ((p0.xLate.getD (Int.toNat v4) zPiece).xFrom))) (kr) (kn (wr .i64 (((p0.xLate.getD (Int.toNat v4) zPiece).xFrom) + (((p0.xLate.getD (Int.toNat v4) zPiece).xData).length : Int))) (wr .i64 (v4 + 1)))) (kn (wr .i64 (((p0.xLate.getD (Int.toNat v4) zPiece).xFrom) + (((p0.xLate.getD (Int.toNat v4) zPiece).xData).length : Int))) (wr .i64 (v4 + 1)))))))) (none)) (none)) (ke0)
def l28_10 (cp : CP) (n : Nat) : Nat → SRecv → Int → Int → Int → (Option R) → (Option R) → Option R
  | 0, _, _, _, _, _, _ => none
  | m + 1, p0, v2, v3, v4, kr, ke0 =>
    s28_5 cp n p0 v2 v3 v4 (fun v6 v7 => l28_10 cp n m p0 v2 v6 v7 kr ke0) kr ke0
def s28_11 (cp : CP) (n : Nat) (p0 : SRecv) (v2 : Int) (kr : Option R) (ke0 : Option R) : Option R :=
  l28_10 cp n n p0 v2 p0.xNext 0 kr ke0
def s28_12 (cp : CP) (n : Nat) (p0 : SRecv) (v2 : Int) (kn : Option R) (kr : Option R) : Option R :=
  s28_11 cp n p0 v2 kr kn
def s28_13 (cp : CP) (n : Nat) (p0 : SRecv) (kn : Option R) (kr : Option R) : Option R :=
  s28_3 cp n p0 (fun v2 => s28_12 cp n p0 v2 kn kr)
def s28_14 (cp : CP) (n : Nat) (p0 : SRecv) (kn : (List SSpan) → Option R) : Option R :=
  G55 cp n p0 (fun r8 => G1007 cp n r8 (fun r37 r38 => kn r37))
def s28_16 (cp : CP) (n : Nat) (p0 : SRecv) (v39 : (List SSpan)) (kn : Int → Option R) : Option R :=
  kn (p0.xFirst.length : Int)
def s28_18 (cp : CP) (n : Nat) (p0 : SRecv) (v39 : (List SSpan)) (v40 v41 : Int) (kn : Int → Option R) (kr : Option R) (ke2 : Option R) : Option R :=
  cond (decide (v41 < v40)) (cond (decide (0 ≤ v41)) (cond (decide (v41 < (p0.xFirst.length : Int))) (G56 cp n v39 (p0.xFirst.getD (Int.toNat v41) zSpan) (fun r42 => cond (!r42) (kr) (cond (decide (0 ≤ v41)) (cond (decide (v41 ≤ (p0.xFirst.length : Int))) (G56 cp n (p0.xFirst.take (Int.toNat v41)) (p0.xFirst.getD (Int.toNat v41) zSpan) (fun r43 => cond (r43) (kr) (kn (wr .i64 (v41 + 1))))) (none)) (none)))) (none)) (none)) (ke2)
def l28_22 (cp : CP) (n : Nat) : Nat → SRecv → (List SSpan) → Int → Int → (Option R) → (Option R) → Option R
  | 0, _, _, _, _, _, _ => none
  | m + 1, p0, v39, v40, v41, kr, ke2 =>
    s28_18 cp n p0 v39 v40 v41 (fun v44 => l28_22 cp n m p0 v39 v40 v44 kr ke2) kr ke2
def s28_23 (cp : CP) (n : Nat) (p0 : SRecv) (v39 : (List SSpan)) (v40 : Int) (kr : Option R) (ke2 : Option R) : Option R :=
  l28_22 cp n n p0 v39 v40 0 kr ke2
def s28_24 (cp : CP) (n : Nat) (p0 : SRecv) (v39 : (List SSpan)) (v40 : Int) (kn : Option R) (kr : Option R) : Option R :=
  s28_23 cp n p0 v39 v40 kr kn
def s28_25 (cp : CP) (n : Nat) (p0 : SRecv) (v39 : (List SSpan)) (kn : Option R) (kr : Option R) : Option R :=
  s28_16 cp n p0 v39 (fun v40 => s28_24 cp n p0 v39 v40 kn kr)
def s28_26 (cp : CP) (n : Nat) (kr : Option R) : Option R :=
  kr
def s28_29 (cp : CP) (n : Nat) (p0 : SRecv) (v39 : (List SSpan)) (kr : Bool → Option R) : Option R :=
  s28_25 cp n p0 v39 (s28_26 cp n (kr true)) (kr false)
def s28_31 (cp : CP) (n : Nat) (p0 : SRecv) (kr : Bool → Option R) : Option R :=
  s28_14 cp n p0 (fun v39 => s28_29 cp n p0 v39 (fun v45 => (kr v45)))
def s28_33 (cp : CP) (n : Nat) (p0 : SRecv) (kr : Bool → Option R) : Option R :=
  s28_13 cp n p0 (s28_31 cp n p0 (fun v46 => (kr v46))) (kr false)
def s28_35 (cp : CP) (n : Nat) (p0 : SRecv) (kr : Bool → Option R) : Option R :=
  s28_1 cp n p0 (s28_33 cp n p0 (fun v47 => (kr v47)))
def G28 (cp : CP) : Nat → SRecv → (Bool → Option R) → Option R
  | 0, _, _ => none
  | n + 1, p0, k =>
    s28_35 cp n p0 (fun v48 => k v48)
/-! tideway/recv.Check -/
def s10_1 (cp : CP) (n : Nat) (p0 : SRecv) (kn : Option R) : Option R :=
  kn
def s10_3 (cp : CP) (n : Nat) (p0 : SRecv) (kn : Option R) (kr : Option R) : Option R :=
  cond (decide (0 ≤ p0.xNext)) (cond (decide (p0.xNext ≤ 562949953421312)) (cond (decide (1 ≤ p0.xCap)) (cond (decide (p0.xCap ≤ 1073741824)) (cond (decide (0 ≤ p0.xShift)) (cond (decide (p0.xShift ≤ 14)) (cond (!(decide ((p0.xUnread.length : Int) ≤ (mn p0.xCap p0.xNext)))) (kr) (cond (decide (p0.xEdge < 0)) (kr) (G27 cp n p0 (fun r1 => cond (decide (r1 < p0.xEdge)) (kr) (cond (decide (p0.xFin < (-1))) (kr) (cond (decide (0 ≤ p0.xFin)) (cond (decide (p0.xFin < p0.xNext)) (kr) (cond (decide (562949953421312 < p0.xFin)) (kr) (kn))) (cond (decide (562949953421312 < p0.xFin)) (kr) (kn)))))))) (kr)) (kr)) (kr)) (kr)) (kr)) (kr)
def s10_5 (cp : CP) (n : Nat) (p0 : SRecv) (kr : Int → Option R) : Option R :=
  G28 cp n p0 (fun r2 => cond (!r2) (kr 230) (cond (!(p0.xDone == (decide (p0.xFin = p0.xNext)))) (kr 230) (cond (p0.xDone) (cond (decide (0 < (p0.xLate.length : Int))) (kr 230) (kr 0)) (kr 0))))
def s10_8 (cp : CP) (n : Nat) (p0 : SRecv) (kr : Int → Option R) : Option R :=
  s10_3 cp n p0 (s10_5 cp n p0 (fun v3 => (kr v3))) (kr 230)
def s10_10 (cp : CP) (n : Nat) (p0 : SRecv) (kr : Int → Option R) : Option R :=
  s10_1 cp n p0 (s10_8 cp n p0 (fun v4 => (kr v4)))
def G10 (cp : CP) : Nat → SRecv → (Int → Option R) → Option R
  | 0, _, _ => none
  | n + 1, p0, k =>
    s10_10 cp n p0 (fun v5 => k v5)
/-! slices.Clone[[]tideway/api.Span,tideway/api.Span] -/
def G57 (cp : CP) : Nat → (List SSpan) → ((List SSpan) → Option R) → Option R
  | 0, _, _ => none
  | n + 1, p0, k => cond (cp (0 + p0.length) 16) (k p0) none
/-! bytes.Clone -/
def G52 (cp : CP) : Nat → (List Int) → ((List Int) → Option R) → Option R
  | 0, _, _ => none
  | n + 1, p0, k => cond (cp (0 + p0.length) 1) (k p0) none
/-! tideway/recv.copied -/
def s29_1 (cp : CP) (n : Nat) (p0 : SRecv) (kn : (List Int) → (List SSpan) → Option R) : Option R :=
  cond (cp (([] : List Int).length + p0.xUnread.length) 1) (G57 cp n p0.xFirst (fun r9 => kn ([] ++ p0.xUnread) r9)) (none)
def s29_3 (cp : CP) (n : Nat) (p0 : SRecv) (v10 : (List Int)) (v11 : (List SSpan)) (kn : Int → Option R) : Option R :=
  kn (p0.xLate.length : Int)
def s29_5 (cp : CP) (n : Nat) (p0 : SRecv) (v10 : (List Int)) (v11 : (List SSpan)) (v12 v13 : Int) (v14 : (List SPiece)) (kn : Int → (List SPiece) → Option R) (ke0 : Option R) : Option R :=
  cond (decide (v13 < v12)) (cond (decide (0 ≤ v13)) (cond (decide (v13 < (p0.xLate.length : Int))) (G52 cp n ((p0.xLate.getD (Int.toNat v13) zPiece).xData) (fun r15 => cond (cp (v14.length + [(SPiece.mk ((p0.xLate.getD (Int.toNat v13) zPiece).xFrom) r15)].length) 32) (kn (wr .i64 (v13 + 1)) (v14 ++ [(SPiece.mk ((p0.xLate.getD (Int.toNat v13) zPiece).xFrom) r15)])) (none))) (none)) (none)) (ke0)
def l29_10 (cp : CP) (n : Nat) : Nat → SRecv → (List Int) → (List SSpan) → Int → Int → (List SPiece) → ((List SPiece) → Option R) → Option R
  | 0, _, _, _, _, _, _, _ => none
  | m + 1, p0, v10, v11, v12, v13, v14, ke0 =>
    s29_5 cp n p0 v10 v11 v12 v13 v14 (fun v16 v17 => l29_10 cp n m p0 v10 v11 v12 v16 v17 ke0) (ke0 v14)
def s29_11 (cp : CP) (n : Nat) (p0 : SRecv) (v10 : (List Int)) (v11 : (List SSpan)) (v12 : Int) (ke0 : (List SPiece) → Option R) : Option R :=
  l29_10 cp n n p0 v10 v11 v12 0 [] ke0
def s29_13 (cp : CP) (n : Nat) (p0 : SRecv) (v10 : (List Int)) (v11 : (List SSpan)) (v12 : Int) (kn : (List SPiece) → Option R) : Option R :=
  s29_11 cp n p0 v10 v11 v12 (fun v18 => (kn v18))
def s29_15 (cp : CP) (n : Nat) (p0 : SRecv) (v10 : (List Int)) (v11 : (List SSpan)) (kn : (List SPiece) → Option R) : Option R :=
  s29_3 cp n p0 v10 v11 (fun v12 => s29_13 cp n p0 v10 v11 v12 (fun v19 => (kn v19)))
def s29_16 (cp : CP) (n : Nat) (p0 : SRecv) (v10 : (List Int)) (v11 : (List SSpan)) (v20 : (List SPiece)) (kr : Option R) : Option R :=
  kr
def s29_19 (cp : CP) (n : Nat) (p0 : SRecv) (v10 : (List Int)) (v11 : (List SSpan)) (kr : (List SPiece) → Option R) : Option R :=
  s29_15 cp n p0 v10 v11 (fun v20 => s29_16 cp n p0 v10 v11 v20 (kr v20))
def s29_21 (cp : CP) (n : Nat) (p0 : SRecv) (kr : SRecv → Option R) : Option R :=
  s29_1 cp n p0 (fun v10 v11 => s29_19 cp n p0 v10 v11 (fun v21 => (kr (SRecv.mk p0.xNext v10 v21 p0.xCap p0.xShift p0.xEdge p0.xRecent p0.xStamps p0.xSacks p0.xFin p0.xDone v11 p0.xIrs p0.xOwn p0.xStamp))))
def G29 (cp : CP) : Nat → SRecv → (SRecv → Option R) → Option R
  | 0, _, _ => none
  | n + 1, p0, k =>
    s29_21 cp n p0 (fun v22 => k v22)
/-! tideway/seq.Clamp -/
def G51 (cp : CP) : Nat → Int → Int → Int → (Int → Option R) → Option R
  | 0, _, _, _, _ => none
  | n + 1, p0, p1, p2, k =>
    k (mx p1 (mn p0 p2))
/-! tideway/recv.window -/
def G49 (cp : CP) : Nat → SRecv → (Int → Option R) → Option R
  | 0, _, _ => none
  | n + 1, p0, k =>
    cond (decide (p0.xShift < 0)) (none) (cond (decide (p0.xShift < 0)) (none) (k (shl .i64 (mn (shr .i64 (wr .i64 (p0.xCap - (p0.xUnread.length : Int))) p0.xShift) 65535) p0.xShift)))
/-! tideway/seq.Add -/
def G36 (cp : CP) : Nat → Int → Int → (Int → Option R) → Option R
  | 0, _, _, _ => none
  | n + 1, p0, p1, k =>
    k (wr .u32 (p0 + (wr .u32 p1)))
/-! tideway/recv.tell -/
def s32_1 (cp : CP) (n : Nat) (p0 : SRecv) (p1 : (List SBlock)) (kn : Int → SSegment → Option R) : Option R :=
  cond (p0.xDone) (G36 cp n p0.xIrs (wr .i64 (p0.xNext + 1)) (fun r27 => G49 cp n p0 (fun r28 => cond (decide (p0.xShift < 0)) (none) (cond (p0.xStamps) (kn (wr .i64 (4 - 1)) (SSegment.mk 0 0 p0.xOwn r27 16 (shr .i64 r28 p0.xShift) 0 (-1) (-1) false true 0 p0.xRecent p1 [])) (kn 4 (SSegment.mk 0 0 p0.xOwn r27 16 (shr .i64 r28 p0.xShift) 0 (-1) (-1) false false 0 0 p1 [])))))) (G36 cp n p0.xIrs p0.xNext (fun r29 => G49 cp n p0 (fun r30 => cond (decide (p0.xShift < 0)) (none) (cond (p0.xStamps) (kn (wr .i64 (4 - 1)) (SSegment.mk 0 0 p0.xOwn r29 16 (shr .i64 r30 p0.xShift) 0 (-1) (-1) false true 0 p0.xRecent p1 [])) (kn 4 (SSegment.mk 0 0 p0.xOwn r29 16 (shr .i64 r30 p0.xShift) 0 (-1) (-1) false false 0 0 p1 []))))))
def s32_3 (cp : CP) (n : Nat) (p0 : SRecv) (v31 : Int) (v32 : SSegment) (kn : Int → Option R) : Option R :=
  kn (p0.xFirst.length : Int)
def s32_5 (cp : CP) (n : Nat) (p0 : SRecv) (v31 : Int) (v32 : SSegment) (v33 v34 : Int) (v35 : (List SBlock)) (kn : Int → (List SBlock) → Option R) (ke0 : Option R) : Option R :=
  cond (decide (v34 < v33)) (cond (decide (0 ≤ v34)) (cond (decide (v34 < (p0.xFirst.length : Int))) (cond (p0.xSacks) (cond (decide ((v35.length : Int) < v31)) (G36 cp n p0.xIrs ((p0.xFirst.getD (Int.toNat v34) zSpan).xFrom) (fun r36 => G36 cp n p0.xIrs ((p0.xFirst.getD (Int.toNat v34) zSpan).xTo) (fun r37 => cond (cp (v35.length + [(SBlock.mk r36 r37)].length) 8) (kn (wr .i64 (v34 + 1)) (v35 ++ [(SBlock.mk r36 r37)])) (none)))) (kn (wr .i64 (v34 + 1)) v35)) (kn (wr .i64 (v34 + 1)) v35)) (none)) (none)) (ke0)
def l32_10 (cp : CP) (n : Nat) : Nat → SRecv → Int → SSegment → Int → Int → (List SBlock) → ((List SBlock) → Option R) → Option R
  | 0, _, _, _, _, _, _, _ => none
  | m + 1, p0, v31, v32, v33, v34, v35, ke0 =>
    s32_5 cp n p0 v31 v32 v33 v34 v35 (fun v38 v39 => l32_10 cp n m p0 v31 v32 v33 v38 v39 ke0) (ke0 v35)
def s32_11 (cp : CP) (n : Nat) (p0 : SRecv) (v31 : Int) (v32 : SSegment) (v33 : Int) (ke0 : (List SBlock) → Option R) : Option R :=
  l32_10 cp n n p0 v31 v32 v33 0 v32.xSacks ke0
def s32_13 (cp : CP) (n : Nat) (p0 : SRecv) (v31 : Int) (v32 : SSegment) (v33 : Int) (kn : (List SBlock) → Option R) : Option R :=
  s32_11 cp n p0 v31 v32 v33 (fun v40 => (kn v40))
def s32_15 (cp : CP) (n : Nat) (p0 : SRecv) (v31 : Int) (v32 : SSegment) (kn : (List SBlock) → Option R) : Option R :=
  s32_3 cp n p0 v31 v32 (fun v33 => s32_13 cp n p0 v31 v32 v33 (fun v41 => (kn v41)))
def s32_16 (cp : CP) (n : Nat) (p0 : SRecv) (v32 : SSegment) (v42 : (List SBlock)) (kr : Int → Option R) : Option R :=
  G49 cp n p0 (fun r43 => kr (mx p0.xEdge (wr .i64 (p0.xNext + r43))))
def s32_19 (cp : CP) (n : Nat) (p0 : SRecv) (v31 : Int) (v32 : SSegment) (kr : Int → (List SBlock) → Option R) : Option R :=
  s32_15 cp n p0 v31 v32 (fun v42 => s32_16 cp n p0 v32 v42 (fun v44 => (kr v44 v42)))
def s32_21 (cp : CP) (n : Nat) (p0 : SRecv) (p1 : (List SBlock)) (kr : Int → SSegment → Option R) : Option R :=
  s32_1 cp n p0 p1 (fun v31 v32 => s32_19 cp n p0 v31 v32 (fun v45 v46 => (kr v45 (SSegment.mk v32.xSrcPort v32.xDstPort v32.xSeq v32.xAck v32.xFlags v32.xWin v32.xUrg v32.xMss v32.xScale v32.xSackOk v32.xStamped v32.xVal v32.xEcr v46 v32.xData))))
def G32 (cp : CP) : Nat → SRecv → (List SBlock) → (SRecv → SSegment → Option R) → Option R
  | 0, _, _, _ => none
  | n + 1, p0, p1, k =>
    s32_21 cp n p0 p1 (fun v47 v48 => k (SRecv.mk p0.xNext p0.xUnread p0.xLate p0.xCap p0.xShift v47 p0.xRecent p0.xStamps p0.xSacks p0.xFin p0.xDone p0.xFirst p0.xIrs p0.xOwn p0.xStamp) v48)
/-! tideway/recv.Read -/
def s20_1 (cp : CP) (n : Nat) (p0 : SRecv) (p1 : Int) (kn : (List Int) → SRecv → Option R) (kr : Int → Option R) : Option R :=
  G10 cp n p0 (fun r11 => cond (!decide (r11 = 0)) (kr r11) (G29 cp n p0 (fun r12 => G51 cp n p1 0 (r12.xUnread.length : Int) (fun r13 => cond (decide (0 ≤ r13)) (cond (decide (r13 ≤ (r12.xUnread.length : Int))) (G52 cp n (r12.xUnread.take (Int.toNat r13)) (fun r14 => cond (decide (0 ≤ r13)) (cond (decide (r13 ≤ (r12.xUnread.length : Int))) (kn r14 (SRecv.mk r12.xNext (List.take (r12.xUnread.length - (Int.toNat r13)) (r12.xUnread.drop (Int.toNat r13))) r12.xLate r12.xCap r12.xShift r12.xEdge r12.xRecent r12.xStamps r12.xSacks r12.xFin r12.xDone r12.xFirst r12.xIrs r12.xOwn r12.xStamp)) (none)) (none))) (none)) (none)))))
def s20_4 (cp : CP) (n : Nat) (v15 : (List Int)) (v16 : SRecv) (kr : Bool → SRecv → SSegment → Option R) : Option R :=
  G49 cp n v16 (fun r18 => cond (decide ((wr .i64 ((wr .i64 (v16.xNext + r18)) - v16.xEdge)) < (mx (wr .i64 (Int.tdiv v16.xCap 2)) 1))) (kr false v16 (SSegment.mk 0 0 0 0 0 0 0 0 0 false false 0 0 [] [])) (G32 cp n v16 [] (fun r49 r50 => kr true r49 r50)))
def s20_7 (cp : CP) (n : Nat) (p0 : SRecv) (p1 : Int) (kr : (List Int) → Bool → Int → SRecv → SSegment → Option R) : Option R :=
  s20_1 cp n p0 p1 (fun v15 v16 => s20_4 cp n v15 v16 (fun v51 v52 v53 => (kr v15 v51 0 v52 v53))) (fun v17 => (kr [] false v17 (SRecv.mk 0 [] [] 0 0 0 0 false false 0 false [] 0 0 false) (SSegment.mk 0 0 0 0 0 0 0 0 0 false false 0 0 [] [])))
def G20 (cp : CP) : Nat → SRecv → Int → (SRecv → (List Int) → SSegment → Bool → Int → Option R) → Option R
  | 0, _, _, _ => none
  | n + 1, p0, p1, k =>
    s20_7 cp n p0 p1 (fun v54 v55 v56 v57 v58 => k v57 v54 v58 v55 v56)
/-! tideway/tidewayref08.reach -/
def G46 (cp : CP) : Nat → SRecv → (Int → Option R) → Option R
  | 0, _, _ => none
  | n + 1, p0, k =>
    k (wr .i64 ((wr .i64 (p0.xNext - (p0.xUnread.length : Int))) + p0.xCap))
/-! tideway/tidewayref08.limit -/
def G42 (cp : CP) : Nat → SRecv → (Int → Option R) → Option R
  | 0, _, _ => none
  | n + 1, p0, k =>
    G46 cp n p0 (fun r68 => k (mn r68 562949953421312))
/-! tideway/tidewayref08.spans -/
def s47_1 (cp : CP) (n : Nat) (p0 : (List SPiece)) (kn : Option R) : Option R :=
  kn
def s47_3 (cp : CP) (n : Nat) (p0 : (List SPiece)) (kn : Option R) : Option R :=
  kn
def s47_5 (cp : CP) (n : Nat) (p0 : (List SPiece)) (v73 : (List SSpan)) (v74 : Int) (kn : (List SSpan) → Int → Option R) (ke0 : Option R) : Option R :=
  cond (decide (v74 < (p0.length : Int))) (cond (decide (0 ≤ v74)) (cond (decide (v74 < (p0.length : Int))) (cond (decide (0 ≤ v74)) (cond (decide (v74 < (p0.length : Int))) (cond (decide (0 ≤ v74)) (cond (decide (v74 < (p0.length : Int))) (cond (cp (v73.length + [(SSpan.mk ((p0.getD (Int.toNat v74) zPiece).xFrom) (wr .i64 (((p0.getD (Int.toNat v74) zPiece).xFrom) + (((p0.getD (Int.toNat v74) zPiece).xData).length : Int))))].length) 16) (kn (v73 ++ [(SSpan.mk ((p0.getD (Int.toNat v74) zPiece).xFrom) (wr .i64 (((p0.getD (Int.toNat v74) zPiece).xFrom) + (((p0.getD (Int.toNat v74) zPiece).xData).length : Int))))]) (wr .i64 (v74 + 1))) (none)) (none)) (none)) (none)) (none)) (none)) (none)) (ke0)
def l47_10 (cp : CP) (n : Nat) : Nat → (List SPiece) → (List SSpan) → Int → ((List SSpan) → Option R) → Option R
  | 0, _, _, _, _ => none
  | m + 1, p0, v73, v74, ke0 =>
    s47_5 cp n p0 v73 v74 (fun v75 v76 => l47_10 cp n m p0 v75 v76 ke0) (ke0 v73)
def s47_11 (cp : CP) (n : Nat) (p0 : (List SPiece)) (ke0 : (List SSpan) → Option R) : Option R :=
  l47_10 cp n n p0 [] 0 ke0
def s47_13 (cp : CP) (n : Nat) (p0 : (List SPiece)) (kn : (List SSpan) → Option R) : Option R :=
  s47_11 cp n p0 (fun v77 => (kn v77))
def s47_15 (cp : CP) (n : Nat) (p0 : (List SPiece)) (kn : (List SSpan) → Option R) : Option R :=
  s47_3 cp n p0 (s47_13 cp n p0 (fun v78 => (kn v78)))
def s47_16 (cp : CP) (n : Nat) (v79 : (List SSpan)) (kr : Option R) : Option R :=
  kr
def s47_19 (cp : CP) (n : Nat) (p0 : (List SPiece)) (kr : (List SSpan) → Option R) : Option R :=
  s47_15 cp n p0 (fun v79 => s47_16 cp n v79 (kr v79))
def s47_21 (cp : CP) (n : Nat) (p0 : (List SPiece)) (kr : (List SSpan) → Option R) : Option R :=
  s47_1 cp n p0 (s47_19 cp n p0 (fun v80 => (kr v80)))
def G47 (cp : CP) : Nat → (List SPiece) → ((List SSpan) → Option R) → Option R
  | 0, _, _ => none
  | n + 1, p0, k =>
    s47_21 cp n p0 (fun v81 => k v81)
/-! tideway/tidewayref08.in -/
def s48_1 (cp : CP) (n : Nat) (p0 : SSpan) (p1 : (List SSpan)) (kn : Option R) : Option R :=
  kn
def s48_3 (cp : CP) (n : Nat) (p0 : SSpan) (p1 : (List SSpan)) (kn : Option R) : Option R :=
  kn
def s48_5 (cp : CP) (n : Nat) (p0 : SSpan) (p1 : (List SSpan)) (v84 : Int) (kn : Int → Option R) (kr : Option R) (ke0 : Option R) : Option R :=
  cond (decide (v84 < (p1.length : Int))) (cond (decide (0 ≤ v84)) (cond (decide (v84 < (p1.length : Int))) (cond ((decide ((p1.getD (Int.toNat v84) zSpan).xFrom = p0.xFrom) && (decide ((p1.getD (Int.toNat v84) zSpan).xTo = p0.xTo) && true))) (kr) (kn (wr .i64 (v84 + 1)))) (none)) (none)) (ke0)
def l48_10 (cp : CP) (n : Nat) : Nat → SSpan → (List SSpan) → Int → (Option R) → (Option R) → Option R
  | 0, _, _, _, _, _ => none
  | m + 1, p0, p1, v84, kr, ke0 =>
    s48_5 cp n p0 p1 v84 (fun v85 => l48_10 cp n m p0 p1 v85 kr ke0) kr ke0
def s48_11 (cp : CP) (n : Nat) (p0 : SSpan) (p1 : (List SSpan)) (kr : Option R) (ke0 : Option R) : Option R :=
  l48_10 cp n n p0 p1 0 kr ke0
def s48_12 (cp : CP) (n : Nat) (p0 : SSpan) (p1 : (List SSpan)) (kn : Option R) (kr : Option R) : Option R :=
  s48_11 cp n p0 p1 kr kn
def s48_13 (cp : CP) (n : Nat) (p0 : SSpan) (p1 : (List SSpan)) (kn : Option R) (kr : Option R) : Option R :=
  s48_3 cp n p0 p1 (s48_12 cp n p0 p1 kn kr)
def s48_14 (cp : CP) (n : Nat) (kr : Option R) : Option R :=
  kr
def s48_17 (cp : CP) (n : Nat) (p0 : SSpan) (p1 : (List SSpan)) (kr : Bool → Option R) : Option R :=
  s48_13 cp n p0 p1 (s48_14 cp n (kr false)) (kr true)
def s48_19 (cp : CP) (n : Nat) (p0 : SSpan) (p1 : (List SSpan)) (kr : Bool → Option R) : Option R :=
  s48_1 cp n p0 p1 (s48_17 cp n p0 p1 (fun v86 => (kr v86)))
def G48 (cp : CP) : Nat → SSpan → (List SSpan) → (Bool → Option R) → Option R
  | 0, _, _, _ => none
  | n + 1, p0, p1, k =>
    s48_19 cp n p0 p1 (fun v87 => k v87)
/-! tideway/tidewayref08.Check -/
def s16_1 (cp : CP) (n : Nat) (p0 : SRecv) (kn : Option R) (kr : Option R) : Option R :=
  cond (decide (p0.xNext < 0)) (kr) (cond (decide (562949953421312 < p0.xNext)) (kr) (cond (decide (p0.xCap < 1)) (kr) (cond (decide (1073741824 < p0.xCap)) (kr) (cond (decide (p0.xShift < 0)) (kr) (cond (decide (14 < p0.xShift)) (kr) (cond (decide (p0.xCap < (p0.xUnread.length : Int))) (kr) (cond (decide (p0.xNext < (p0.xUnread.length : Int))) (kr) (kn))))))))
def s16_4 (cp : CP) (n : Nat) (p0 : SRecv) (kn : Option R) (kr : Option R) : Option R :=
  cond (decide (p0.xFin < (-1))) (kr) (cond (decide (0 ≤ p0.xFin)) (cond (decide (p0.xFin < p0.xNext)) (kr) (cond (decide (562949953421312 < p0.xFin)) (kr) (cond (decide (p0.xEdge < 0)) (kr) (G46 cp n p0 (fun r66 => cond (decide (r66 < p0.xEdge)) (kr) (kn)))))) (cond (decide (562949953421312 < p0.xFin)) (kr) (cond (decide (p0.xEdge < 0)) (kr) (G46 cp n p0 (fun r67 => cond (decide (r67 < p0.xEdge)) (kr) (kn))))))
def s16_6 (cp : CP) (n : Nat) (p0 : SRecv) (kn : Option R) : Option R :=
  kn
def s16_8 (cp : CP) (n : Nat) (p0 : SRecv) (v68 v69 : Int) (kn : Int → Int → Option R) (kr : Option R) (ke0 : Option R) : Option R :=
  cond (decide (v69 < (p0.xLate.length : Int))) (cond (decide (0 ≤ v69)) (cond (decide (v69 < (p0.xLate.length : Int))) (cond (decide ((((p0.xLate.getD (Int.toNat v69) zPiece).xData).length : Int) < 1)) (kr) (cond (decide (0 ≤ v69)) (cond (decide (v69 < (p0.xLate.length : Int))) (cond (decide (((p0.xLate.getD (Int.toNat v69) zPiece).xFrom) ≤ v68)) (kr) (cond (decide (0 ≤ v69)) (cond (decide (v69 < (p0.xLate.length : Int))) (G42 cp n p0 (fun r70 => cond (decide ((wr .i64 (r70 - (((p0.xLate.getD (Int.toNat v69) zPiece).xData).length : Int))) < ((p0.xLate.getD (Int.toNat v69) zPiece).xFrom))) (kr) (cond (decide (0 ≤ p0.xFin)) (cond (decide (0 ≤ v69)) (cond (decide (v69 < (p0.xLate.length : Int))) (cond (decide ((wr .i64 (p0.xFin - (((p0.xLate.getD (Int.toNat v69) zPiece).xData).length : Int))) < ((p0.xLate.getD (Int.toNat v69) zPiece).xFrom))) (kr) (cond (decide (0 ≤ v69)) (cond (decide (v69 < (p0.xLate.length : Int))) (kn (wr .i64 (((p0.xLate.getD (Int.toNat v69) zPiece).xFrom) + (((p0.xLate.getD (Int.toNat v69) zPiece).xData).length : Int))) (wr .i64 (v69 + 1))) (none)) (none))) (none)) (none)) (cond (decide (0 ≤ v69)) (cond (decide (v69 < (p0.xLate.length : Int))) (kn (wr .i64 (((p0.xLate.getD (Int.toNat v69) zPiece).xFrom) + (((p0.xLate.getD (Int.toNat v69) zPiece).xData).length : Int))) (wr .i64 (v69 + 1))) (none)) (none))))) (none)) (none))) (none)) (none))) (none)) (none)) (ke0)
def l16_11 (cp : CP) (n : Nat) : Nat → SRecv → Int → Int → (Option R) → (Option R) → Option R
  | 0, _, _, _, _, _ => none
  | m + 1, p0, v68, v69, kr, ke0 =>
    s16_8 cp n p0 v68 v69 (fun v71 v72 => l16_11 cp n m p0 v71 v72 kr ke0) kr ke0
def s16_12 (cp : CP) (n : Nat) (p0 : SRecv) (kr : Option R) (ke0 : Option R) : Option R :=
  l16_11 cp n n p0 p0.xNext 0 kr ke0
def s16_13 (cp : CP) (n : Nat) (p0 : SRecv) (kn : Option R) (kr : Option R) : Option R :=
  s16_12 cp n p0 kr kn
def s16_14 (cp : CP) (n : Nat) (p0 : SRecv) (kn : Option R) (kr : Option R) : Option R :=
  s16_6 cp n p0 (s16_13 cp n p0 kn kr)
def s16_15 (cp : CP) (n : Nat) (p0 : SRecv) (kn : (List SSpan) → Option R) : Option R :=
  G47 cp n p0.xLate (fun r82 => kn r82)
def s16_17 (cp : CP) (n : Nat) (p0 : SRecv) (v83 : (List SSpan)) (kn : Option R) : Option R :=
  kn
def s16_19 (cp : CP) (n : Nat) (p0 : SRecv) (v83 : (List SSpan)) (v84 : Int) (kn : Int → Option R) (kr : Option R) (ke2 : Option R) : Option R :=
  cond (decide (v84 < (p0.xFirst.length : Int))) (cond (decide (0 ≤ v84)) (cond (decide (v84 < (p0.xFirst.length : Int))) (G48 cp n (p0.xFirst.getD (Int.toNat v84) zSpan) v83 (fun r85 => cond (!r85) (kr) (cond (decide (0 ≤ v84)) (cond (decide (v84 < (p0.xFirst.length : Int))) (cond (decide (0 ≤ v84)) (cond (decide (v84 ≤ (p0.xFirst.length : Int))) (G48 cp n (p0.xFirst.getD (Int.toNat v84) zSpan) (p0.xFirst.take (Int.toNat v84)) (fun r86 => cond (r86) (kr) (kn (wr .i64 (v84 + 1))))) (none)) (none)) (none)) (none)))) (none)) (none)) (ke2)
def l16_22 (cp : CP) (n : Nat) : Nat → SRecv → (List SSpan) → Int → (Option R) → (Option R) → Option R
  | 0, _, _, _, _, _ => none
  | m + 1, p0, v83, v84, kr, ke2 =>
    s16_19 cp n p0 v83 v84 (fun v87 => l16_22 cp n m p0 v83 v87 kr ke2) kr ke2
def s16_23 (cp : CP) (n : Nat) (p0 : SRecv) (v83 : (List SSpan)) (kr : Option R) (ke2 : Option R) : Option R :=
  l16_22 cp n n p0 v83 0 kr ke2
def s16_24 (cp : CP) (n : Nat) (p0 : SRecv) (v83 : (List SSpan)) (kn : Option R) (kr : Option R) : Option R :=
  s16_23 cp n p0 v83 kr kn
def s16_25 (cp : CP) (n : Nat) (p0 : SRecv) (v83 : (List SSpan)) (kn : Option R) (kr : Option R) : Option R :=
  s16_17 cp n p0 v83 (s16_24 cp n p0 v83 kn kr)
def s16_26 (cp : CP) (n : Nat) (p0 : SRecv) (kr : Int → Option R) : Option R :=
  cond (!(p0.xDone == (decide (p0.xFin = p0.xNext)))) (kr 230) (cond (p0.xDone) (cond (decide (0 < (p0.xLate.length : Int))) (kr 230) (kr 0)) (kr 0))
def s16_29 (cp : CP) (n : Nat) (p0 : SRecv) (v83 : (List SSpan)) (kr : Int → Option R) : Option R :=
  s16_25 cp n p0 v83 (s16_26 cp n p0 (fun v88 => (kr v88))) (kr 230)
def s16_31 (cp : CP) (n : Nat) (p0 : SRecv) (kr : Int → Option R) : Option R :=
  s16_15 cp n p0 (fun v83 => s16_29 cp n p0 v83 (fun v89 => (kr v89)))
def s16_33 (cp : CP) (n : Nat) (p0 : SRecv) (kr : Int → Option R) : Option R :=
  s16_14 cp n p0 (s16_31 cp n p0 (fun v90 => (kr v90))) (kr 230)
def s16_35 (cp : CP) (n : Nat) (p0 : SRecv) (kr : Int → Option R) : Option R :=
  s16_4 cp n p0 (s16_33 cp n p0 (fun v91 => (kr v91))) (kr 230)
def s16_37 (cp : CP) (n : Nat) (p0 : SRecv) (kr : Int → Option R) : Option R :=
  s16_1 cp n p0 (s16_35 cp n p0 (fun v92 => (kr v92))) (kr 230)
def G16 (cp : CP) : Nat → SRecv → (Int → Option R) → Option R
  | 0, _, _ => none
  | n + 1, p0, k =>
    s16_37 cp n p0 (fun v93 => k v93)
/-! tideway/tidewayref08.Copy -/
def s37_1 (cp : CP) (n : Nat) (p0 : SRecv) (kn : (List Int) → Option R) : Option R :=
  cond (cp (([] : List Int).length + p0.xUnread.length) 1) (kn ([] ++ p0.xUnread)) (none)
def s37_3 (cp : CP) (n : Nat) (p0 : SRecv) (v95 : (List Int)) (kn : Option R) : Option R :=
  kn
def s37_5 (cp : CP) (n : Nat) (p0 : SRecv) (v95 : (List Int)) (v96 : Int) (v97 : (List SPiece)) (kn : Int → (List SPiece) → Option R) (ke0 : Option R) : Option R :=
  cond (decide (v96 < (p0.xLate.length : Int))) (cond (decide (0 ≤ v96)) (cond (decide (v96 < (p0.xLate.length : Int))) (cond (decide (0 ≤ v96)) (cond (decide (v96 < (p0.xLate.length : Int))) (cond (cp (([] : List Int).length + ((p0.xLate.getD (Int.toNat v96) zPiece).xData).length) 1) (cond (cp (v97.length + [(SPiece.mk ((p0.xLate.getD (Int.toNat v96) zPiece).xFrom) ([] ++ ((p0.xLate.getD (Int.toNat v96) zPiece).xData)))].length) 32) (kn (wr .i64 (v96 + 1)) (v97 ++ [(SPiece.mk ((p0.xLate.getD (Int.toNat v96) zPiece).xFrom) ([] ++ ((p0.xLate.getD (Int.toNat v96) zPiece).xData)))])) (none)) (none)) (none)) (none)) (none)) (none)) (ke0)
def l37_10 (cp : CP) (n : Nat) : Nat → SRecv → (List Int) → Int → (List SPiece) → ((List SPiece) → Option R) → Option R
  | 0, _, _, _, _, _ => none
  | m + 1, p0, v95, v96, v97, ke0 =>
    s37_5 cp n p0 v95 v96 v97 (fun v98 v99 => l37_10 cp n m p0 v95 v98 v99 ke0) (ke0 v97)
def s37_11 (cp : CP) (n : Nat) (p0 : SRecv) (v95 : (List Int)) (ke0 : (List SPiece) → Option R) : Option R :=
  l37_10 cp n n p0 v95 0 [] ke0
def s37_13 (cp : CP) (n : Nat) (p0 : SRecv) (v95 : (List Int)) (kn : (List SPiece) → Option R) : Option R :=
  s37_11 cp n p0 v95 (fun v100 => (kn v100))
def s37_15 (cp : CP) (n : Nat) (p0 : SRecv) (v95 : (List Int)) (kn : (List SPiece) → Option R) : Option R :=
  s37_3 cp n p0 v95 (s37_13 cp n p0 v95 (fun v101 => (kn v101)))
def s37_16 (cp : CP) (n : Nat) (p0 : SRecv) (v95 : (List Int)) (v102 : (List SPiece)) (kr : (List SSpan) → Option R) : Option R :=
  cond (cp (([] : List SSpan).length + p0.xFirst.length) 16) (kr ([] ++ p0.xFirst)) (none)
def s37_19 (cp : CP) (n : Nat) (p0 : SRecv) (v95 : (List Int)) (kr : (List SPiece) → (List SSpan) → Option R) : Option R :=
  s37_15 cp n p0 v95 (fun v102 => s37_16 cp n p0 v95 v102 (fun v103 => (kr v102 v103)))
def s37_21 (cp : CP) (n : Nat) (p0 : SRecv) (kr : SRecv → Option R) : Option R :=
  s37_1 cp n p0 (fun v95 => s37_19 cp n p0 v95 (fun v104 v105 => (kr (SRecv.mk p0.xNext v95 v104 p0.xCap p0.xShift p0.xEdge p0.xRecent p0.xStamps p0.xSacks p0.xFin p0.xDone v105 p0.xIrs p0.xOwn p0.xStamp))))
def G37 (cp : CP) : Nat → SRecv → (SRecv → Option R) → Option R
  | 0, _, _ => none
  | n + 1, p0, k =>
    s37_21 cp n p0 (fun v106 => k v106)
/-! tideway/tidewayref08.window -/
def G50 (cp : CP) : Nat → SRecv → (Int → Option R) → Option R
  | 0, _, _ => none
  | n + 1, p0, k =>
    cond (decide ((wr .u64 p0.xShift) < 0)) (none) (cond (decide ((shl .i64 1 (wr .u64 p0.xShift)) = 0)) (none) (k (wr .i64 ((mn (wr .i64 (Int.tdiv (wr .i64 (p0.xCap - (p0.xUnread.length : Int))) (shl .i64 1 (wr .u64 p0.xShift)))) 65535) * (shl .i64 1 (wr .u64 p0.xShift))))))
/-! tideway/tidewayref01.mod -/
def G65 (cp : CP) : Nat → Int → (Int → Option R) → Option R
  | 0, _, _ => none
  | n + 1, p0, k =>
    cond (decide ((Int.tmod p0 4294967296) < 0)) (k (wr .i64 ((Int.tmod p0 4294967296) + 4294967296))) (k (Int.tmod p0 4294967296))
/-! tideway/tidewayref01.Add -/
def G39 (cp : CP) : Nat → Int → Int → (Int → Option R) → Option R
  | 0, _, _, _ => none
  | n + 1, p0, p1, k =>
    G65 cp n p1 (fun r109 => G65 cp n (wr .i64 ((wr .i64 p0) + r109)) (fun r110 => k (wr .u32 r110)))
/-! tideway/tidewayref08.tell -/
def s41_1 (cp : CP) (n : Nat) (p0 : SRecv) (p1 : (List SBlock)) (kn : Int → SSegment → Option R) : Option R :=
  cond (p0.xDone) (G39 cp n p0.xIrs (wr .i64 (p0.xNext + 1)) (fun r119 => G50 cp n p0 (fun r120 => cond (decide ((wr .u64 p0.xShift) < 0)) (none) (cond (p0.xStamps) (kn 3 (SSegment.mk 0 0 p0.xOwn r119 16 (shr .i64 r120 (wr .u64 p0.xShift)) 0 (-1) (-1) false true 0 p0.xRecent p1 [])) (kn 4 (SSegment.mk 0 0 p0.xOwn r119 16 (shr .i64 r120 (wr .u64 p0.xShift)) 0 (-1) (-1) false false 0 0 p1 [])))))) (G39 cp n p0.xIrs p0.xNext (fun r121 => G50 cp n p0 (fun r122 => cond (decide ((wr .u64 p0.xShift) < 0)) (none) (cond (p0.xStamps) (kn 3 (SSegment.mk 0 0 p0.xOwn r121 16 (shr .i64 r122 (wr .u64 p0.xShift)) 0 (-1) (-1) false true 0 p0.xRecent p1 [])) (kn 4 (SSegment.mk 0 0 p0.xOwn r121 16 (shr .i64 r122 (wr .u64 p0.xShift)) 0 (-1) (-1) false false 0 0 p1 []))))))
def s41_3 (cp : CP) (n : Nat) (p0 : SRecv) (v123 : Int) (v124 : SSegment) (kn : Option R) : Option R :=
  kn
def s41_5 (cp : CP) (n : Nat) (p0 : SRecv) (v123 : Int) (v124 : SSegment) (v125 : Int) (v126 : (List SBlock)) (kn : Int → (List SBlock) → Option R) (ke0 : Option R) : Option R :=
  cond (decide (v125 < (p0.xFirst.length : Int))) (cond (p0.xSacks) (cond (decide ((v126.length : Int) < v123)) (cond (decide (0 ≤ v125)) (cond (decide (v125 < (p0.xFirst.length : Int))) (G39 cp n p0.xIrs ((p0.xFirst.getD (Int.toNat v125) zSpan).xFrom) (fun r127 => cond (decide (0 ≤ v125)) (cond (decide (v125 < (p0.xFirst.length : Int))) (G39 cp n p0.xIrs ((p0.xFirst.getD (Int.toNat v125) zSpan).xTo) (fun r128 => cond (cp (v126.length + [(SBlock.mk r127 r128)].length) 8) (kn (wr .i64 (v125 + 1)) (v126 ++ [(SBlock.mk r127 r128)])) (none))) (none)) (none))) (none)) (none)) (ke0)) (ke0)) (ke0)
def l41_10 (cp : CP) (n : Nat) : Nat → SRecv → Int → SSegment → Int → (List SBlock) → ((List SBlock) → Option R) → Option R
  | 0, _, _, _, _, _, _ => none
  | m + 1, p0, v123, v124, v125, v126, ke0 =>
    s41_5 cp n p0 v123 v124 v125 v126 (fun v129 v130 => l41_10 cp n m p0 v123 v124 v129 v130 ke0) (ke0 v126)
def s41_11 (cp : CP) (n : Nat) (p0 : SRecv) (v123 : Int) (v124 : SSegment) (ke0 : (List SBlock) → Option R) : Option R :=
  l41_10 cp n n p0 v123 v124 0 v124.xSacks ke0
def s41_13 (cp : CP) (n : Nat) (p0 : SRecv) (v123 : Int) (v124 : SSegment) (kn : (List SBlock) → Option R) : Option R :=
  s41_11 cp n p0 v123 v124 (fun v131 => (kn v131))
def s41_15 (cp : CP) (n : Nat) (p0 : SRecv) (v123 : Int) (v124 : SSegment) (kn : (List SBlock) → Option R) : Option R :=
  s41_3 cp n p0 v123 v124 (s41_13 cp n p0 v123 v124 (fun v132 => (kn v132)))
def s41_16 (cp : CP) (n : Nat) (p0 : SRecv) (v124 : SSegment) (v133 : (List SBlock)) (kr : SRecv → Option R) : Option R :=
  G37 cp n p0 (fun r134 => G50 cp n p0 (fun r135 => kr (SRecv.mk r134.xNext r134.xUnread r134.xLate r134.xCap r134.xShift (mx p0.xEdge (wr .i64 (p0.xNext + r135))) r134.xRecent r134.xStamps r134.xSacks r134.xFin r134.xDone r134.xFirst r134.xIrs r134.xOwn r134.xStamp)))
def s41_19 (cp : CP) (n : Nat) (p0 : SRecv) (v123 : Int) (v124 : SSegment) (kr : SRecv → (List SBlock) → Option R) : Option R :=
  s41_15 cp n p0 v123 v124 (fun v133 => s41_16 cp n p0 v124 v133 (fun v136 => (kr v136 v133)))
def s41_21 (cp : CP) (n : Nat) (p0 : SRecv) (p1 : (List SBlock)) (kr : SRecv → SSegment → Option R) : Option R :=
  s41_1 cp n p0 p1 (fun v123 v124 => s41_19 cp n p0 v123 v124 (fun v137 v138 => (kr v137 (SSegment.mk v124.xSrcPort v124.xDstPort v124.xSeq v124.xAck v124.xFlags v124.xWin v124.xUrg v124.xMss v124.xScale v124.xSackOk v124.xStamped v124.xVal v124.xEcr v138 v124.xData))))
def G41 (cp : CP) : Nat → SRecv → (List SBlock) → (SRecv → SSegment → Option R) → Option R
  | 0, _, _, _ => none
  | n + 1, p0, p1, k =>
    s41_21 cp n p0 p1 (fun v139 v140 => k v139 v140)
/-! tideway/tidewayref08.Read -/
def G24 (cp : CP) : Nat → SRecv → Int → (SRecv → (List Int) → SSegment → Bool → Int → Option R) → Option R
  | 0, _, _, _ => none
  | n + 1, p0, p1, k =>
    G16 cp n p0 (fun r94 => cond (!decide (r94 = 0)) (k (SRecv.mk 0 [] [] 0 0 0 0 false false 0 false [] 0 0 false) [] (SSegment.mk 0 0 0 0 0 0 0 0 0 false false 0 0 [] []) false 230) (G37 cp n p0 (fun r107 => cond (decide (0 ≤ mn (mx p1 0) (r107.xUnread.length : Int))) (cond (decide (mn (mx p1 0) (r107.xUnread.length : Int) ≤ (r107.xUnread.length : Int))) (cond (cp (([] : List Int).length + (r107.xUnread.take (Int.toNat (mn (mx p1 0) (r107.xUnread.length : Int)))).length) 1) (cond (decide (0 ≤ mn (mx p1 0) (r107.xUnread.length : Int))) (cond (decide (mn (mx p1 0) (r107.xUnread.length : Int) ≤ (r107.xUnread.length : Int))) (G50 cp n (SRecv.mk r107.xNext (List.take (r107.xUnread.length - (Int.toNat (mn (mx p1 0) (r107.xUnread.length : Int)))) (r107.xUnread.drop (Int.toNat (mn (mx p1 0) (r107.xUnread.length : Int))))) r107.xLate r107.xCap r107.xShift r107.xEdge r107.xRecent r107.xStamps r107.xSacks r107.xFin r107.xDone r107.xFirst r107.xIrs r107.xOwn r107.xStamp) (fun r108 => cond (decide ((mx (wr .i64 (Int.tdiv r107.xCap 2)) 1) ≤ (wr .i64 ((wr .i64 (r107.xNext + r108)) - r107.xEdge)))) (G41 cp n (SRecv.mk r107.xNext (List.take (r107.xUnread.length - (Int.toNat (mn (mx p1 0) (r107.xUnread.length : Int)))) (r107.xUnread.drop (Int.toNat (mn (mx p1 0) (r107.xUnread.length : Int))))) r107.xLate r107.xCap r107.xShift r107.xEdge r107.xRecent r107.xStamps r107.xSacks r107.xFin r107.xDone r107.xFirst r107.xIrs r107.xOwn r107.xStamp) [] (fun r141 r142 => k r141 ([] ++ (r107.xUnread.take (Int.toNat (mn (mx p1 0) (r107.xUnread.length : Int))))) r142 true 0)) (k (SRecv.mk r107.xNext (List.take (r107.xUnread.length - (Int.toNat (mn (mx p1 0) (r107.xUnread.length : Int)))) (r107.xUnread.drop (Int.toNat (mn (mx p1 0) (r107.xUnread.length : Int))))) r107.xLate r107.xCap r107.xShift r107.xEdge r107.xRecent r107.xStamps r107.xSacks r107.xFin r107.xDone r107.xFirst r107.xIrs r107.xOwn r107.xStamp) ([] ++ (r107.xUnread.take (Int.toNat (mn (mx p1 0) (r107.xUnread.length : Int))))) (SSegment.mk 0 0 0 0 0 0 0 0 0 false false 0 0 [] []) false 0))) (none)) (none)) (none)) (none)) (none))))
/-! tideway/recv.Tell -/
def G23 (cp : CP) : Nat → SRecv → (SRecv → SSegment → Option R) → Option R
  | 0, _, _ => none
  | n + 1, p0, k =>
    G10 cp n p0 (fun r148 => cond (!decide (r148 = 0)) (k (SRecv.mk 0 [] [] 0 0 0 0 false false 0 false [] 0 0 false) (SSegment.mk 0 0 0 0 0 0 0 0 0 false false 0 0 [] [])) (G29 cp n p0 (fun r149 => G32 cp n r149 [] (fun r150 r151 => k r150 r151))))
/-! tideway/tidewayref08.Tell -/
def G25 (cp : CP) : Nat → SRecv → (SRecv → SSegment → Option R) → Option R
  | 0, _, _ => none
  | n + 1, p0, k =>
    G16 cp n p0 (fun r154 => cond (!decide (r154 = 0)) (k (SRecv.mk 0 [] [] 0 0 0 0 false false 0 false [] 0 0 false) (SSegment.mk 0 0 0 0 0 0 0 0 0 false false 0 0 [] [])) (G41 cp n p0 [] (fun r155 r156 => k r155 r156)))
/-! tideway/tidewayref02.Same -/
def G21 (cp : CP) : Nat → (List Int) → (List Int) → (Bool → Option R) → Option R
  | 0, _, _, _ => none
  | n + 1, p0, p1, k =>
    k ((strOfNums p0).data.toList == (strOfNums p1).data.toList)
/-! tideway/tidewayref08.Same -/
def s14_1 (cp : CP) (n : Nat) (p0 p1 : SRecv) (kn : Option R) (kr : Option R) : Option R :=
  cond (!decide (p0.xNext = p1.xNext)) (kr) (cond (!decide (p0.xCap = p1.xCap)) (kr) (cond (!decide (p0.xShift = p1.xShift)) (kr) (cond (!decide (p0.xEdge = p1.xEdge)) (kr) (cond (!decide (p0.xRecent = p1.xRecent)) (kr) (cond (!(p0.xStamps == p1.xStamps)) (kr) (cond (!(p0.xSacks == p1.xSacks)) (kr) (cond (!decide (p0.xFin = p1.xFin)) (kr) (cond (!(p0.xDone == p1.xDone)) (kr) (cond (!decide (p0.xIrs = p1.xIrs)) (kr) (cond (!decide (p0.xOwn = p1.xOwn)) (kr) (cond (!(p0.xStamp == p1.xStamp)) (kr) (G21 cp n p0.xUnread p1.xUnread (fun r159 => cond (!r159) (kr) (cond (!decide ((p0.xLate.length : Int) = (p1.xLate.length : Int))) (kr) (cond (!decide ((p0.xFirst.length : Int) = (p1.xFirst.length : Int))) (kr) (kn))))))))))))))))
def s14_4 (cp : CP) (n : Nat) (p0 p1 : SRecv) (kn : Option R) : Option R :=
  kn
def s14_6 (cp : CP) (n : Nat) (p0 p1 : SRecv) (v160 : Int) (kn : Int → Option R) (kr : Option R) (ke0 : Option R) : Option R :=
  cond (decide (v160 < (p0.xLate.length : Int))) (cond (decide (0 ≤ v160)) (cond (decide (v160 < (p0.xLate.length : Int))) (cond (decide (0 ≤ v160)) (cond (decide (v160 < (p1.xLate.length : Int))) (cond (!decide (((p0.xLate.getD (Int.toNat v160) zPiece).xFrom) = ((p1.xLate.getD (Int.toNat v160) zPiece).xFrom))) (kr) (cond (decide (0 ≤ v160)) (cond (decide (v160 < (p0.xLate.length : Int))) (cond (decide (0 ≤ v160)) (cond (decide (v160 < (p1.xLate.length : Int))) (G21 cp n ((p0.xLate.getD (Int.toNat v160) zPiece).xData) ((p1.xLate.getD (Int.toNat v160) zPiece).xData) (fun r161 => cond (!r161) (kr) (kn (wr .i64 (v160 + 1))))) (none)) (none)) (none)) (none))) (none)) (none)) (none)) (none)) (ke0)
def l14_9 (cp : CP) (n : Nat) : Nat → SRecv → SRecv → Int → (Option R) → (Option R) → Option R
  | 0, _, _, _, _, _ => none
  | m + 1, p0, p1, v160, kr, ke0 =>
    s14_6 cp n p0 p1 v160 (fun v162 => l14_9 cp n m p0 p1 v162 kr ke0) kr ke0
def s14_10 (cp : CP) (n : Nat) (p0 p1 : SRecv) (kr : Option R) (ke0 : Option R) : Option R :=
  l14_9 cp n n p0 p1 0 kr ke0
def s14_11 (cp : CP) (n : Nat) (p0 p1 : SRecv) (kn : Option R) (kr : Option R) : Option R :=
  s14_10 cp n p0 p1 kr kn
def s14_12 (cp : CP) (n : Nat) (p0 p1 : SRecv) (kn : Option R) (kr : Option R) : Option R :=
  s14_4 cp n p0 p1 (s14_11 cp n p0 p1 kn kr)
def s14_13 (cp : CP) (n : Nat) (p0 p1 : SRecv) (kn : Option R) : Option R :=
  kn
def s14_15 (cp : CP) (n : Nat) (p0 p1 : SRecv) (v163 : Int) (kn : Int → Option R) (kr : Option R) (ke2 : Option R) : Option R :=
  cond (decide (v163 < (p0.xFirst.length : Int))) (cond (decide (0 ≤ v163)) (cond (decide (v163 < (p0.xFirst.length : Int))) (cond (decide (0 ≤ v163)) (cond (decide (v163 < (p1.xFirst.length : Int))) (cond (!(decide ((p0.xFirst.getD (Int.toNat v163) zSpan).xFrom = (p1.xFirst.getD (Int.toNat v163) zSpan).xFrom) && (decide ((p0.xFirst.getD (Int.toNat v163) zSpan).xTo = (p1.xFirst.getD (Int.toNat v163) zSpan).xTo) && true))) (kr) (kn (wr .i64 (v163 + 1)))) (none)) (none)) (none)) (none)) (ke2)
def l14_19 (cp : CP) (n : Nat) : Nat → SRecv → SRecv → Int → (Option R) → (Option R) → Option R
  | 0, _, _, _, _, _ => none
  | m + 1, p0, p1, v163, kr, ke2 =>
    s14_15 cp n p0 p1 v163 (fun v164 => l14_19 cp n m p0 p1 v164 kr ke2) kr ke2
def s14_20 (cp : CP) (n : Nat) (p0 p1 : SRecv) (kr : Option R) (ke2 : Option R) : Option R :=
  l14_19 cp n n p0 p1 0 kr ke2
def s14_21 (cp : CP) (n : Nat) (p0 p1 : SRecv) (kn : Option R) (kr : Option R) : Option R :=
  s14_20 cp n p0 p1 kr kn
def s14_22 (cp : CP) (n : Nat) (p0 p1 : SRecv) (kn : Option R) (kr : Option R) : Option R :=
  s14_13 cp n p0 p1 (s14_21 cp n p0 p1 kn kr)
def s14_23 (cp : CP) (n : Nat) (kr : Option R) : Option R :=
  kr
def s14_26 (cp : CP) (n : Nat) (p0 p1 : SRecv) (kr : Bool → Option R) : Option R :=
  s14_22 cp n p0 p1 (s14_23 cp n (kr true)) (kr false)
def s14_28 (cp : CP) (n : Nat) (p0 p1 : SRecv) (kr : Bool → Option R) : Option R :=
  s14_12 cp n p0 p1 (s14_26 cp n p0 p1 (fun v165 => (kr v165))) (kr false)
def s14_30 (cp : CP) (n : Nat) (p0 p1 : SRecv) (kr : Bool → Option R) : Option R :=
  s14_1 cp n p0 p1 (s14_28 cp n p0 p1 (fun v166 => (kr v166))) (kr false)
def G14 (cp : CP) : Nat → SRecv → SRecv → (Bool → Option R) → Option R
  | 0, _, _, _ => none
  | n + 1, p0, p1, k =>
    s14_30 cp n p0 p1 (fun v167 => k v167)
/-! tideway/tidewayref03.Same -/
def s45_1 (cp : CP) (n : Nat) (p0 p1 : SSegment) (kn : Option R) (kr : Option R) : Option R :=
  cond (!decide (p0.xSrcPort = p1.xSrcPort)) (kr) (cond (!decide (p0.xDstPort = p1.xDstPort)) (kr) (cond (!decide (p0.xSeq = p1.xSeq)) (kr) (cond (!decide (p0.xAck = p1.xAck)) (kr) (cond (!decide (p0.xFlags = p1.xFlags)) (kr) (cond (!decide (p0.xWin = p1.xWin)) (kr) (cond (!decide (p0.xUrg = p1.xUrg)) (kr) (cond (!decide (p0.xMss = p1.xMss)) (kr) (cond (!decide (p0.xScale = p1.xScale)) (kr) (cond (!(p0.xSackOk == p1.xSackOk)) (kr) (cond (!(p0.xStamped == p1.xStamped)) (kr) (cond (!decide (p0.xVal = p1.xVal)) (kr) (cond (!decide (p0.xEcr = p1.xEcr)) (kr) (cond (!decide ((p0.xSacks.length : Int) = (p1.xSacks.length : Int))) (kr) (kn))))))))))))))
def s45_4 (cp : CP) (n : Nat) (p0 p1 : SSegment) (kn : Option R) : Option R :=
  kn
def s45_6 (cp : CP) (n : Nat) (p0 p1 : SSegment) (v58 : Int) (kn : Int → Option R) (kr : Option R) (ke0 : Option R) : Option R :=
  cond (decide (v58 < (p0.xSacks.length : Int))) (cond (decide (0 ≤ v58)) (cond (decide (v58 < (p0.xSacks.length : Int))) (cond (decide (0 ≤ v58)) (cond (decide (v58 < (p1.xSacks.length : Int))) (cond (!(decide ((p0.xSacks.getD (Int.toNat v58) zBlock).xFrom = (p1.xSacks.getD (Int.toNat v58) zBlock).xFrom) && (decide ((p0.xSacks.getD (Int.toNat v58) zBlock).xTo = (p1.xSacks.getD (Int.toNat v58) zBlock).xTo) && true))) (kr) (kn (wr .i64 (v58 + 1)))) (none)) (none)) (none)) (none)) (ke0)
def l45_9 (cp : CP) (n : Nat) : Nat → SSegment → SSegment → Int → (Option R) → (Option R) → Option R
  | 0, _, _, _, _, _ => none
  | m + 1, p0, p1, v58, kr, ke0 =>
    s45_6 cp n p0 p1 v58 (fun v59 => l45_9 cp n m p0 p1 v59 kr ke0) kr ke0
def s45_10 (cp : CP) (n : Nat) (p0 p1 : SSegment) (kr : Option R) (ke0 : Option R) : Option R :=
  l45_9 cp n n p0 p1 0 kr ke0
def s45_11 (cp : CP) (n : Nat) (p0 p1 : SSegment) (kn : Option R) (kr : Option R) : Option R :=
  s45_10 cp n p0 p1 kr kn
def s45_12 (cp : CP) (n : Nat) (p0 p1 : SSegment) (kn : Option R) (kr : Option R) : Option R :=
  s45_4 cp n p0 p1 (s45_11 cp n p0 p1 kn kr)
def s45_13 (cp : CP) (n : Nat) (p0 p1 : SSegment) (kr : Bool → Option R) : Option R :=
  G21 cp n p0.xData p1.xData (fun r60 => kr r60)
def s45_16 (cp : CP) (n : Nat) (p0 p1 : SSegment) (kr : Bool → Option R) : Option R :=
  s45_12 cp n p0 p1 (s45_13 cp n p0 p1 (fun v61 => (kr v61))) (kr false)
def s45_18 (cp : CP) (n : Nat) (p0 p1 : SSegment) (kr : Bool → Option R) : Option R :=
  s45_1 cp n p0 p1 (s45_16 cp n p0 p1 (fun v62 => (kr v62))) (kr false)
def G45 (cp : CP) : Nat → SSegment → SSegment → (Bool → Option R) → Option R
  | 0, _, _, _ => none
  | n + 1, p0, p1, k =>
    s45_18 cp n p0 p1 (fun v63 => k v63)
/-! tideway/tidewayref08.Told -/
def G15 (cp : CP) : Nat → SSegment → SSegment → (Bool → Option R) → Option R
  | 0, _, _, _ => none
  | n + 1, p0, p1, k =>
    G45 cp n p0 p1 (fun r64 => k r64)
/-! tideway/recv.Window -/
def G22 (cp : CP) : Nat → SRecv → (Int → Option R) → Option R
  | 0, _, _ => none
  | n + 1, p0, k =>
    G10 cp n p0 (fun r61 => cond (!decide (r61 = 0)) (k 0) (G49 cp n p0 (fun r62 => k r62)))
/-! tideway/tidewayref08.Window -/
def G26 (cp : CP) : Nat → SRecv → (Int → Option R) → Option R
  | 0, _, _ => none
  | n + 1, p0, k =>
    G16 cp n p0 (fun r64 => cond (!decide (r64 = 0)) (k 0) (G50 cp n p0 (fun r65 => k r65)))
/-! tideway/recv.New -/
def G17 (cp : CP) : Nat → Int → Int → Int → Int → Bool → Bool → (SRecv → Int → Option R) → Option R
  | 0, _, _, _, _, _, _, _ => none
  | n + 1, p0, p1, p2, p3, p4, p5, k =>
    cond (decide (p0 < 1)) (k (SRecv.mk 0 [] [] 0 0 0 0 false false 0 false [] 0 0 false) 2) (cond (decide (1073741824 < p0)) (k (SRecv.mk 0 [] [] 0 0 0 0 false false 0 false [] 0 0 false) 2) (cond (decide (p1 < 0)) (k (SRecv.mk 0 [] [] 0 0 0 0 false false 0 false [] 0 0 false) 2) (cond (decide (14 < p1)) (k (SRecv.mk 0 [] [] 0 0 0 0 false false 0 false [] 0 0 false) 2) (G49 cp n (SRecv.mk 0 [] [] p0 p1 0 0 p4 p5 (-1) false [] p2 p3 false) (fun r67 => k (SRecv.mk 0 [] [] p0 p1 r67 0 p4 p5 (-1) false [] p2 p3 false) 0)))))
/-! tideway/seq.Diff -/
def G31 (cp : CP) : Nat → Int → Int → (Int → Option R) → Option R
  | 0, _, _, _ => none
  | n + 1, p0, p1, k =>
    k (wr .i64 (wr .i32 (wr .u32 (p1 - p0))))
/-! tideway/seq.Sum -/
def G58 (cp : CP) : Nat → Int → Int → (Int → Option R) → Option R
  | 0, _, _, _ => none
  | n + 1, p0, p1, k =>
    cond (decide (0 < p0)) (cond (decide (0 < p1)) (cond (decide ((wr .i64 (p0 + p1)) < 0)) (k 9223372036854775807) (cond (decide (p0 < 0)) (cond (decide (p1 < 0)) (cond (decide (0 ≤ (wr .i64 (p0 + p1)))) (k (-9223372036854775808)) (k (wr .i64 (p0 + p1)))) (k (wr .i64 (p0 + p1)))) (k (wr .i64 (p0 + p1))))) (cond (decide (p0 < 0)) (cond (decide (p1 < 0)) (cond (decide (0 ≤ (wr .i64 (p0 + p1)))) (k (-9223372036854775808)) (k (wr .i64 (p0 + p1)))) (k (wr .i64 (p0 + p1)))) (k (wr .i64 (p0 + p1))))) (cond (decide (p0 < 0)) (cond (decide (p1 < 0)) (cond (decide (0 ≤ (wr .i64 (p0 + p1)))) (k (-9223372036854775808)) (k (wr .i64 (p0 + p1)))) (k (wr .i64 (p0 + p1)))) (k (wr .i64 (p0 + p1))))
/-! tideway/seq.Unwrap -/
def G30 (cp : CP) : Nat → Int → Int → (Int → Option R) → Option R
  | 0, _, _, _ => none
  | n + 1, p0, p1, k =>
    G31 cp n (wr .u32 p0) p1 (fun r72 => G58 cp n p0 r72 (fun r73 => k r73))
/-! tideway/recv.end -/
def s33_1 (cp : CP) (n : Nat) (p0 : SRecv) (p1 : Int) (kn : Option R) : Option R :=
  kn
def s33_3 (cp : CP) (n : Nat) (p0 : SRecv) (p1 : Int) (kn : SRecv → Option R) : Option R :=
  G55 cp n p0 (fun r86 => kn r86)
def s33_7 (cp : CP) (n : Nat) (p0 : SRecv) (p1 : Int) (v87 : SRecv) (kn : Int → Option R) : Option R :=
  kn (v87.xLate.length : Int)
def s33_9 (cp : CP) (n : Nat) (p0 : SRecv) (p1 : Int) (v87 : SRecv) (v88 v89 v90 : Int) (kn : Option R) (ke0 : Option R) : Option R :=
  cond (decide (v89 < v88)) (kn) (ke0)
def s33_12 (cp : CP) (n : Nat) (p0 : SRecv) (p1 : Int) (v87 : SRecv) (v88 v89 v90 : Int) (kn : Int → (List Int) → Option R) : Option R :=
  cond (decide (0 ≤ v89)) (cond (decide (v89 < (v87.xLate.length : Int))) (kn ((v87.xLate.getD (Int.toNat v89) zPiece).xFrom) ((v87.xLate.getD (Int.toNat v89) zPiece).xData)) (none)) (none)
def s33_14 (cp : CP) (n : Nat) (p0 : SRecv) (p1 : Int) (v87 : SRecv) (v88 v89 v90 v91 : Int) (v92 : (List Int)) (ka : Int → Int → Option R) : Option R :=
  G71 cp n (SPiece.mk v91 v92) (fun r93 => ka r93.xFrom r93.xTo)
def s33_16 (cp : CP) (n : Nat) (p0 : SRecv) (p1 : Int) (v87 : SRecv) (v90 v91 : Int) (v92 : (List Int)) (v94 v95 : Int) (kn : Option R) : Option R :=
  kn
def s33_22 (cp : CP) (n : Nat) (p0 : SRecv) (p1 : Int) (v87 : SRecv) (v88 v89 v90 v91 : Int) (v92 : (List Int)) (kn : Int → Option R) : Option R :=
  s33_14 cp n p0 p1 v87 v88 v89 v90 v91 v92 (fun v94 v95 => s33_16 cp n p0 p1 v87 v90 v91 v92 v94 v95 (kn v95))
def s33_23 (cp : CP) (n : Nat) (p0 : SRecv) (p1 : Int) (v87 : SRecv) (v88 v89 v96 : Int) (kn : Option R) : Option R :=
  kn
def s33_26 (cp : CP) (n : Nat) (p0 : SRecv) (p1 : Int) (v87 : SRecv) (v88 v89 v90 v91 : Int) (v92 : (List Int)) (kn : Int → Option R) : Option R :=
  s33_22 cp n p0 p1 v87 v88 v89 v90 v91 v92 (fun v96 => s33_23 cp n p0 p1 v87 v88 v89 v96 (kn v96))
def s33_28 (cp : CP) (n : Nat) (p0 : SRecv) (p1 : Int) (v87 : SRecv) (v88 v89 v90 : Int) (kn : Int → Option R) : Option R :=
  s33_12 cp n p0 p1 v87 v88 v89 v90 (fun v91 v92 => s33_26 cp n p0 p1 v87 v88 v89 v90 v91 v92 (fun v97 => (kn v97)))
def s33_30 (cp : CP) (n : Nat) (p0 : SRecv) (p1 : Int) (v87 : SRecv) (v88 v89 v90 : Int) (kn : Int → Option R) : Option R :=
  s33_28 cp n p0 p1 v87 v88 v89 v90 (fun v98 => (kn v98))
def s33_31 (cp : CP) (n : Nat) (p0 : SRecv) (p1 : Int) (v87 : SRecv) (v88 v89 v99 : Int) (kn : Int → Option R) : Option R :=
  kn (wr .i64 (v89 + 1))
def s33_34 (cp : CP) (n : Nat) (p0 : SRecv) (p1 : Int) (v87 : SRecv) (v88 v89 v90 : Int) (kn : Int → Int → Option R) : Option R :=
  s33_30 cp n p0 p1 v87 v88 v89 v90 (fun v99 => s33_31 cp n p0 p1 v87 v88 v89 v99 (fun v100 => (kn v100 v99)))
def s33_36 (cp : CP) (n : Nat) (p0 : SRecv) (p1 : Int) (v87 : SRecv) (v88 v89 v90 : Int) (kn : Int → Int → Option R) (ke0 : Option R) : Option R :=
  s33_9 cp n p0 p1 v87 v88 v89 v90 (s33_34 cp n p0 p1 v87 v88 v89 v90 (fun v101 v102 => (kn v101 v102))) ke0
def l33_38 (cp : CP) (n : Nat) : Nat → SRecv → Int → SRecv → Int → Int → Int → (Int → Option R) → Option R
  | 0, _, _, _, _, _, _, _ => none
  | m + 1, p0, p1, v87, v88, v89, v90, ke0 =>
    s33_36 cp n p0 p1 v87 v88 v89 v90 (fun v103 v104 => l33_38 cp n m p0 p1 v87 v88 v103 v104 ke0) (ke0 v90)
def s33_39 (cp : CP) (n : Nat) (p0 : SRecv) (p1 : Int) (v87 : SRecv) (v88 : Int) (ke0 : Int → Option R) : Option R :=
  l33_38 cp n n p0 p1 v87 v88 0 p0.xNext ke0
def s33_41 (cp : CP) (n : Nat) (p0 : SRecv) (p1 : Int) (v87 : SRecv) (v88 : Int) (kn : Int → Option R) : Option R :=
  s33_39 cp n p0 p1 v87 v88 (fun v105 => (kn v105))
def s33_43 (cp : CP) (n : Nat) (p0 : SRecv) (p1 : Int) (v87 : SRecv) (kn : Int → Option R) : Option R :=
  s33_7 cp n p0 p1 v87 (fun v88 => s33_41 cp n p0 p1 v87 v88 (fun v106 => (kn v106)))
def s33_46 (cp : CP) (n : Nat) (p0 : SRecv) (p1 : Int) (v87 : SRecv) (kn : Int → Option R) : Option R :=
  s33_43 cp n p0 p1 v87 (fun v107 => (kn v107))
def s33_48 (cp : CP) (n : Nat) (p0 : SRecv) (p1 : Int) (v87 : SRecv) (kn : Int → Option R) : Option R :=
  s33_46 cp n p0 p1 v87 (fun v108 => (kn v108))
def s33_50 (cp : CP) (n : Nat) (p0 : SRecv) (p1 : Int) (kn : Int → Option R) : Option R :=
  s33_3 cp n p0 p1 (fun v87 => s33_48 cp n p0 p1 v87 (fun v109 => (kn v109)))
def s33_51 (cp : CP) (n : Nat) (p0 : SRecv) (p1 v110 : Int) (kr : Int → Option R) : Option R :=
  cond (decide (p0.xFin < 0)) (cond (decide (v110 ≤ p1)) (G53 cp n p0 (fun r111 => cond (decide (p1 ≤ r111)) (kr p1) (kr p0.xFin))) (kr p0.xFin)) (kr p0.xFin)
def s33_54 (cp : CP) (n : Nat) (p0 : SRecv) (p1 : Int) (kr : Int → Option R) : Option R :=
  s33_50 cp n p0 p1 (fun v110 => s33_51 cp n p0 p1 v110 (fun v112 => (kr v112)))
def s33_56 (cp : CP) (n : Nat) (p0 : SRecv) (p1 : Int) (kr : Int → Option R) : Option R :=
  s33_1 cp n p0 p1 (s33_54 cp n p0 p1 (fun v113 => (kr v113)))
def G33 (cp : CP) : Nat → SRecv → Int → (Int → Option R) → Option R
  | 0, _, _, _ => none
  | n + 1, p0, p1, k =>
    s33_56 cp n p0 p1 (fun v114 => k v114)
/-! tideway/span.may -/
def G82 (cp : CP) : Nat → SSpan → (Bool → Option R) → Option R
  | 0, _, _ => none
  | n + 1, p0, k =>
    cond (decide (0 ≤ p0.xFrom)) (cond (decide (p0.xFrom ≤ p0.xTo)) (k (decide (p0.xTo ≤ 1125899906842624))) (k false)) (k false)
/-! tideway/span.Check -/
def s78_1 (cp : CP) (n : Nat) (p0 : (List SSpan)) (kn : Option R) : Option R :=
  kn
def s78_3 (cp : CP) (n : Nat) (p0 : (List SSpan)) (kn : Int → Option R) : Option R :=
  kn (p0.length : Int)
def s78_5 (cp : CP) (n : Nat) (p0 : (List SSpan)) (v148 v149 : Int) (kn : Int → Option R) (kr : Option R) (ke0 : Option R) : Option R :=
  cond (decide (v149 < v148)) (cond (decide (0 ≤ v149)) (cond (decide (v149 < (p0.length : Int))) (G82 cp n (p0.getD (Int.toNat v149) zSpan) (fun r150 => cond (!r150) (kr) (cond (decide (((p0.getD (Int.toNat v149) zSpan).xFrom) = ((p0.getD (Int.toNat v149) zSpan).xTo))) (kr) (cond (decide (0 < v149)) (cond (decide (0 ≤ wr .i64 (v149 - 1))) (cond (decide (wr .i64 (v149 - 1) < (p0.length : Int))) (cond (decide (((p0.getD (Int.toNat v149) zSpan).xFrom) ≤ ((p0.getD (Int.toNat (wr .i64 (v149 - 1))) zSpan).xTo))) (kr) (kn (wr .i64 (v149 + 1)))) (none)) (none)) (kn (wr .i64 (v149 + 1))))))) (none)) (none)) (ke0)
def l78_10 (cp : CP) (n : Nat) : Nat → (List SSpan) → Int → Int → (Option R) → (Option R) → Option R
  | 0, _, _, _, _, _ => none
  | m + 1, p0, v148, v149, kr, ke0 =>
    s78_5 cp n p0 v148 v149 (fun v151 => l78_10 cp n m p0 v148 v151 kr ke0) kr ke0
def s78_11 (cp : CP) (n : Nat) (p0 : (List SSpan)) (v148 : Int) (kr : Option R) (ke0 : Option R) : Option R :=
  l78_10 cp n n p0 v148 0 kr ke0
def s78_12 (cp : CP) (n : Nat) (p0 : (List SSpan)) (v148 : Int) (kn : Option R) (kr : Option R) : Option R :=
  s78_11 cp n p0 v148 kr kn
def s78_13 (cp : CP) (n : Nat) (p0 : (List SSpan)) (kn : Option R) (kr : Option R) : Option R :=
  s78_3 cp n p0 (fun v148 => s78_12 cp n p0 v148 kn kr)
def s78_14 (cp : CP) (n : Nat) (kr : Option R) : Option R :=
  kr
def s78_17 (cp : CP) (n : Nat) (p0 : (List SSpan)) (kr : Int → Option R) : Option R :=
  s78_13 cp n p0 (s78_14 cp n (kr 0)) (kr 60)
def s78_19 (cp : CP) (n : Nat) (p0 : (List SSpan)) (kr : Int → Option R) : Option R :=
  s78_1 cp n p0 (s78_17 cp n p0 (fun v152 => (kr v152)))
def G78 (cp : CP) : Nat → (List SSpan) → (Int → Option R) → Option R
  | 0, _, _ => none
  | n + 1, p0, k =>
    s78_19 cp n p0 (fun v153 => k v153)
/-! tideway/span.within -/
def G79 (cp : CP) : Nat → (List SSpan) → SSpan → ((List SSpan) → SSpan → Option R) → Option R
  | 0, _, _, _ => none
  | n + 1, p0, p1, k =>
    k p0 p1
/-! tideway/span.Gaps -/
def s61_1 (cp : CP) (n : Nat) (p0 : (List SSpan)) (p1 : SSpan) (kn : Option R) (kr : Option R) : Option R :=
  G78 cp n p0 (fun r156 => cond (!decide (r156 = 0)) (kr) (cond (decide (p1.xTo ≤ p1.xFrom)) (kr) (kn)))
def s61_4 (cp : CP) (n : Nat) (p0 : (List SSpan)) (p1 : SSpan) (kn : (List SSpan) → Int → Int → Option R) : Option R :=
  G79 cp n p0 p1 (fun r157 r158 => kn r157 r158.xFrom r158.xTo)
def s61_8 (cp : CP) (n : Nat) (p1 : SSpan) (v159 : (List SSpan)) (v160 v161 : Int) (kn : Int → Option R) : Option R :=
  kn (v159.length : Int)
def s61_10 (cp : CP) (n : Nat) (p1 : SSpan) (v159 : (List SSpan)) (v160 v161 v162 v163 : Int) (v164 : (List SSpan)) (v165 : Int) (kn : Option R) (ke0 : Option R) : Option R :=
  cond (decide (v163 < v162)) (kn) (ke0)
def s61_13 (cp : CP) (n : Nat) (p1 : SSpan) (v159 : (List SSpan)) (v160 v161 v162 v163 : Int) (v164 : (List SSpan)) (v165 : Int) (kn : Int → Int → Option R) : Option R :=
  cond (decide (0 ≤ v163)) (cond (decide (v163 < (v159.length : Int))) (kn (mx ((v159.getD (Int.toNat v163) zSpan).xFrom) v160) (mn ((v159.getD (Int.toNat v163) zSpan).xTo) v161)) (none)) (none)
def s61_15 (cp : CP) (n : Nat) (p1 : SSpan) (v159 : (List SSpan)) (v160 v161 v162 v163 : Int) (v164 : (List SSpan)) (v165 v166 v167 : Int) (ka : Bool → Option R) (kb : Bool → Option R) : Option R :=
  cond (decide (v166 < v167)) (ka (decide (v166 < v167))) (kb (decide (v166 < v167)))
def s61_18 (cp : CP) (n : Nat) (p1 : SSpan) (v159 : (List SSpan)) (v160 v161 : Int) (v164 : (List SSpan)) (v165 v166 v167 : Int) (kn : (List SSpan) → Option R) : Option R :=
  cond (decide (v165 < v166)) (cond (cp (v164.length + [(SSpan.mk v165 v166)].length) 16) (kn (v164 ++ [(SSpan.mk v165 v166)])) (none)) (kn v164)
def s61_24 (cp : CP) (n : Nat) (p1 : SSpan) (v159 : (List SSpan)) (v160 v161 v162 v163 : Int) (v164 : (List SSpan)) (v165 v166 v167 : Int) (kn : (List SSpan) → Int → Option R) : Option R :=
  s61_15 cp n p1 v159 v160 v161 v162 v163 v164 v165 v166 v167 (fun v168 => s61_18 cp n p1 v159 v160 v161 v164 v165 v166 v167 (fun v170 => kn v170 v167)) (fun v169 => kn v164 v165)
def s61_25 (cp : CP) (n : Nat) (p1 : SSpan) (v159 : (List SSpan)) (v160 v161 v162 v163 : Int) (v171 : (List SSpan)) (v172 : Int) (kn : Option R) : Option R :=
  kn
def s61_28 (cp : CP) (n : Nat) (p1 : SSpan) (v159 : (List SSpan)) (v160 v161 v162 v163 : Int) (v164 : (List SSpan)) (v165 v166 v167 : Int) (kn : (List SSpan) → Int → Option R) : Option R :=
  s61_24 cp n p1 v159 v160 v161 v162 v163 v164 v165 v166 v167 (fun v171 v172 => s61_25 cp n p1 v159 v160 v161 v162 v163 v171 v172 (kn v171 v172))
def s61_30 (cp : CP) (n : Nat) (p1 : SSpan) (v159 : (List SSpan)) (v160 v161 v162 v163 : Int) (v164 : (List SSpan)) (v165 : Int) (kn : (List SSpan) → Int → Option R) : Option R :=
  s61_13 cp n p1 v159 v160 v161 v162 v163 v164 v165 (fun v166 v167 => s61_28 cp n p1 v159 v160 v161 v162 v163 v164 v165 v166 v167 (fun v173 v174 => (kn v173 v174)))
def s61_32 (cp : CP) (n : Nat) (p1 : SSpan) (v159 : (List SSpan)) (v160 v161 v162 v163 : Int) (v164 : (List SSpan)) (v165 : Int) (kn : (List SSpan) → Int → Option R) : Option R :=
  s61_30 cp n p1 v159 v160 v161 v162 v163 v164 v165 (fun v175 v176 => (kn v175 v176))
def s61_33 (cp : CP) (n : Nat) (p1 : SSpan) (v159 : (List SSpan)) (v160 v161 v162 v163 : Int) (v177 : (List SSpan)) (v178 : Int) (kn : Int → Option R) : Option R :=
  kn (wr .i64 (v163 + 1))
def s61_36 (cp : CP) (n : Nat) (p1 : SSpan) (v159 : (List SSpan)) (v160 v161 v162 v163 : Int) (v164 : (List SSpan)) (v165 : Int) (kn : Int → (List SSpan) → Int → Option R) : Option R :=
  s61_32 cp n p1 v159 v160 v161 v162 v163 v164 v165 (fun v177 v178 => s61_33 cp n p1 v159 v160 v161 v162 v163 v177 v178 (fun v179 => (kn v179 v177 v178)))
def s61_38 (cp : CP) (n : Nat) (p1 : SSpan) (v159 : (List SSpan)) (v160 v161 v162 v163 : Int) (v164 : (List SSpan)) (v165 : Int) (kn : Int → (List SSpan) → Int → Option R) (ke0 : Option R) : Option R :=
  s61_10 cp n p1 v159 v160 v161 v162 v163 v164 v165 (s61_36 cp n p1 v159 v160 v161 v162 v163 v164 v165 (fun v180 v181 v182 => (kn v180 v181 v182))) ke0
def l61_40 (cp : CP) (n : Nat) : Nat → SSpan → (List SSpan) → Int → Int → Int → Int → (List SSpan) → Int → ((List SSpan) → Int → Option R) → Option R
  | 0, _, _, _, _, _, _, _, _, _ => none
  | m + 1, p1, v159, v160, v161, v162, v163, v164, v165, ke0 =>
    s61_38 cp n p1 v159 v160 v161 v162 v163 v164 v165 (fun v183 v184 v185 => l61_40 cp n m p1 v159 v160 v161 v162 v183 v184 v185 ke0) (ke0 v164 v165)
def s61_41 (cp : CP) (n : Nat) (p1 : SSpan) (v159 : (List SSpan)) (v160 v161 v162 : Int) (ke0 : (List SSpan) → Int → Option R) : Option R :=
  l61_40 cp n n p1 v159 v160 v161 v162 0 [] p1.xFrom ke0
def s61_43 (cp : CP) (n : Nat) (p1 : SSpan) (v159 : (List SSpan)) (v160 v161 v162 : Int) (kn : (List SSpan) → Int → Option R) : Option R :=
  s61_41 cp n p1 v159 v160 v161 v162 (fun v186 v187 => (kn v186 v187))
def s61_45 (cp : CP) (n : Nat) (p1 : SSpan) (v159 : (List SSpan)) (v160 v161 : Int) (kn : (List SSpan) → Int → Option R) : Option R :=
  s61_8 cp n p1 v159 v160 v161 (fun v162 => s61_43 cp n p1 v159 v160 v161 v162 (fun v188 v189 => (kn v188 v189)))
def s61_48 (cp : CP) (n : Nat) (p1 : SSpan) (v159 : (List SSpan)) (v160 v161 : Int) (kn : (List SSpan) → Int → Option R) : Option R :=
  s61_45 cp n p1 v159 v160 v161 (fun v190 v191 => (kn v190 v191))
def s61_50 (cp : CP) (n : Nat) (p1 : SSpan) (v159 : (List SSpan)) (v160 v161 : Int) (kn : (List SSpan) → Int → Option R) : Option R :=
  s61_48 cp n p1 v159 v160 v161 (fun v192 v193 => (kn v192 v193))
def s61_52 (cp : CP) (n : Nat) (p0 : (List SSpan)) (p1 : SSpan) (kn : (List SSpan) → Int → Option R) : Option R :=
  s61_4 cp n p0 p1 (fun v159 v160 v161 => s61_50 cp n p1 v159 v160 v161 (fun v194 v195 => (kn v194 v195)))
def s61_53 (cp : CP) (n : Nat) (p1 : SSpan) (v196 : (List SSpan)) (v197 : Int) (kr : (List SSpan) → Option R) : Option R :=
  cond (decide (v197 < p1.xTo)) (cond (cp (v196.length + [(SSpan.mk v197 p1.xTo)].length) 16) (kr (v196 ++ [(SSpan.mk v197 p1.xTo)])) (none)) (kr v196)
def s61_56 (cp : CP) (n : Nat) (p0 : (List SSpan)) (p1 : SSpan) (kr : (List SSpan) → Option R) : Option R :=
  s61_52 cp n p0 p1 (fun v196 v197 => s61_53 cp n p1 v196 v197 (fun v198 => (kr v198)))
def s61_58 (cp : CP) (n : Nat) (p0 : (List SSpan)) (p1 : SSpan) (kr : (List SSpan) → Option R) : Option R :=
  s61_1 cp n p0 p1 (s61_56 cp n p0 p1 (fun v199 => (kr v199))) (kr [])
def G61 (cp : CP) : Nat → (List SSpan) → SSpan → ((List SSpan) → Option R) → Option R
  | 0, _, _, _ => none
  | n + 1, p0, p1, k =>
    s61_58 cp n p0 p1 (fun v200 => k v200)
/-! tideway/recv.put$1 -/
def G74 (cp : CP) : Nat → SPiece → Int → (Int → Option R) → Option R
  | 0, _, _, _ => none
  | n + 1, p0, p1, k =>
    k (wr .i64 (p0.xFrom - p1))
/-! slices.BinarySearchFunc[[]tideway/api.Piece,tideway/api.Piece,int] -/
def s1052_1 (cp : CP) (n : Nat) (p0 : (List SPiece)) (p1 : Int) (kn : Int → Option R) : Option R :=
  kn (p0.length : Int)
def s1052_3 (cp : CP) (n : Nat) (p0 : (List SPiece)) (p1 v204 v205 v206 : Int) (kn : Int → Int → Option R) (ke0 : Option R) : Option R :=
  cond (decide (v205 < v206)) (cond (decide (0 ≤ wr .i64 (shr .u64 (wr .u64 (wr .i64 (v205 + v206))) 1))) (cond (decide (wr .i64 (shr .u64 (wr .u64 (wr .i64 (v205 + v206))) 1) < (p0.length : Int))) (G74 cp n (p0.getD (Int.toNat (wr .i64 (shr .u64 (wr .u64 (wr .i64 (v205 + v206))) 1))) zPiece) p1 (fun r207 => cond (decide (r207 < 0)) (kn (wr .i64 ((wr .i64 (shr .u64 (wr .u64 (wr .i64 (v205 + v206))) 1)) + 1)) v206) (kn v205 (wr .i64 (shr .u64 (wr .u64 (wr .i64 (v205 + v206))) 1))))) (none)) (none)) (ke0)
def l1052_8 (cp : CP) (n : Nat) : Nat → (List SPiece) → Int → Int → Int → Int → (Int → Option R) → Option R
  | 0, _, _, _, _, _, _ => none
  | m + 1, p0, p1, v204, v205, v206, ke0 =>
    s1052_3 cp n p0 p1 v204 v205 v206 (fun v208 v209 => l1052_8 cp n m p0 p1 v204 v208 v209 ke0) (ke0 v205)
def s1052_9 (cp : CP) (n : Nat) (p0 : (List SPiece)) (p1 v204 : Int) (ke0 : Int → Option R) : Option R :=
  l1052_8 cp n n p0 p1 v204 0 v204 ke0
def s1052_11 (cp : CP) (n : Nat) (p0 : (List SPiece)) (p1 v204 : Int) (kn : Int → Option R) : Option R :=
  s1052_9 cp n p0 p1 v204 (fun v210 => (kn v210))
def s1052_12 (cp : CP) (n : Nat) (p0 : (List SPiece)) (p1 v204 v211 : Int) (kr : Bool → Option R) : Option R :=
  cond (decide (v211 < v204)) (cond (decide (0 ≤ v211)) (cond (decide (v211 < (p0.length : Int))) (G74 cp n (p0.getD (Int.toNat v211) zPiece) p1 (fun r212 => kr (decide (r212 = 0)))) (none)) (none)) (kr false)
def s1052_15 (cp : CP) (n : Nat) (p0 : (List SPiece)) (p1 v204 : Int) (kr : Int → Bool → Option R) : Option R :=
  s1052_11 cp n p0 p1 v204 (fun v211 => s1052_12 cp n p0 p1 v204 v211 (fun v213 => (kr v211 v213)))
def s1052_17 (cp : CP) (n : Nat) (p0 : (List SPiece)) (p1 : Int) (kr : Int → Bool → Option R) : Option R :=
  s1052_1 cp n p0 p1 (fun v204 => s1052_15 cp n p0 p1 v204 (fun v214 v215 => (kr v214 v215)))
def G1052 (cp : CP) : Nat → (List SPiece) → Int → (Int → Bool → Option R) → Option R
  | 0, _, _, _ => none
  | n + 1, p0, p1, k =>
    s1052_17 cp n p0 p1 (fun v216 v217 => k v216 v217)
/-! slices.Clone[[]tideway/api.Piece,tideway/api.Piece] -/
def G1054 (cp : CP) : Nat → (List SPiece) → ((List SPiece) → Option R) → Option R
  | 0, _, _ => none
  | n + 1, p0, k => cond (cp (0 + p0.length) 32) (k p0) none
/-! slices.Insert[[]tideway/api.Piece,tideway/api.Piece] -/
def G75 (cp : CP) : Nat → (List SPiece) → Int → SPiece → ((List SPiece) → Option R) → Option R
  | 0, _, _, _, _ => none
  | n + 1, p0, p1, p2, k => cond (cp (p0.length + 1) 32) (cond (decide (0 ≤ p1)) (cond (decide (p1 ≤ (p0.length : Int))) (k (insL p0 (Int.toNat p1) p2)) none) none) none
/-! slices.Clip[[]byte,byte] -/
def G77 (cp : CP) : Nat → (List Int) → ((List Int) → Option R) → Option R
  | 0, _, _ => none
  | n + 1, p0, k =>
    cond (decide (0 ≤ (p0.length : Int))) (cond (decide ((p0.length : Int) ≤ (p0.length : Int))) (cond (decide ((p0.length : Int) = (p0.length : Int))) (k (p0.take (Int.toNat (p0.length : Int)))) (none)) (none)) (none)
/-! tideway/recv.put -/
def s60_1 (cp : CP) (n : Nat) (p0 : (List SPiece)) (p1 : SPiece) (kn : (List SPiece) → Option R) : Option R :=
  G1052 cp n p0 p1.xFrom (fun r230 r231 => G1054 cp n p0 (fun r232 => G52 cp n p1.xData (fun r233 => G75 cp n r232 r230 (SPiece.mk p1.xFrom r233) (fun r234 => kn r234))))
def s60_3 (cp : CP) (n : Nat) (v235 : (List SPiece)) (kn : Int → Option R) : Option R :=
  kn (v235.length : Int)
def s60_5 (cp : CP) (n : Nat) (v235 : (List SPiece)) (v236 : Int) (v237 : (List SPiece)) (v238 : Int) (kn : (List SPiece) → Int → Option R) (ke0 : Option R) : Option R :=
  cond (decide (v238 < v236)) (cond (decide (0 ≤ v238)) (cond (decide (v238 < (v235.length : Int))) (cond (decide (0 < (v237.length : Int))) (cond (decide (0 ≤ wr .i64 ((v237.length : Int) - 1))) (cond (decide (wr .i64 ((v237.length : Int) - 1) < (v237.length : Int))) (cond (decide ((Int.toNat (wr .i64 ((v237.length : Int) - 1))) < v237.length)) (G71 cp n (v237.getD (Int.toNat (wr .i64 ((v237.length : Int) - 1))) zPiece) (fun r239 => cond (decide (r239.xTo = ((v235.getD (Int.toNat v238) zPiece).xFrom))) (cond (decide (0 ≤ wr .i64 ((v237.length : Int) - 1))) (cond (decide (wr .i64 ((v237.length : Int) - 1) < (v237.length : Int))) (cond (decide ((Int.toNat (wr .i64 ((v237.length : Int) - 1))) < v237.length)) (G77 cp n ((v237.getD (Int.toNat (wr .i64 ((v237.length : Int) - 1))) zPiece).xData) (fun r240 => cond (cp (r240.length + ((v235.getD (Int.toNat v238) zPiece).xData).length) 1) (cond (decide (0 ≤ wr .i64 ((v237.length : Int) - 1))) (cond (decide (wr .i64 ((v237.length : Int) - 1) < (v237.length : Int))) (cond (decide ((Int.toNat (wr .i64 ((v237.length : Int) - 1))) < v237.length)) (kn (v237.set (Int.toNat (wr .i64 ((v237.length : Int) - 1))) (SPiece.mk ((v237.getD (Int.toNat (wr .i64 ((v237.length : Int) - 1))) zPiece).xFrom) (r240 ++ ((v235.getD (Int.toNat v238) zPiece).xData)))) (wr .i64 (v238 + 1))) (none)) (none)) (none)) (none))) (none)) (none)) (none)) (cond (cp (v237.length + [(v235.getD (Int.toNat v238) zPiece)].length) 32) (kn (v237 ++ [(v235.getD (Int.toNat v238) zPiece)]) (wr .i64 (v238 + 1))) (none)))) (none)) (none)) (none)) (cond (cp (v237.length + [(v235.getD (Int.toNat v238) zPiece)].length) 32) (kn (v237 ++ [(v235.getD (Int.toNat v238) zPiece)]) (wr .i64 (v238 + 1))) (none))) (none)) (none)) (ke0)
def l60_10 (cp : CP) (n : Nat) : Nat → (List SPiece) → Int → (List SPiece) → Int → ((List SPiece) → Option R) → Option R
  | 0, _, _, _, _, _ => none
  | m + 1, v235, v236, v237, v238, ke0 =>
    s60_5 cp n v235 v236 v237 v238 (fun v241 v242 => l60_10 cp n m v235 v236 v241 v242 ke0) (ke0 v237)
def s60_11 (cp : CP) (n : Nat) (v235 : (List SPiece)) (v236 : Int) (ke0 : (List SPiece) → Option R) : Option R :=
  l60_10 cp n n v235 v236 [] 0 ke0
def s60_13 (cp : CP) (n : Nat) (v235 : (List SPiece)) (v236 : Int) (kn : (List SPiece) → Option R) : Option R :=
  s60_11 cp n v235 v236 (fun v243 => (kn v243))
def s60_15 (cp : CP) (n : Nat) (v235 : (List SPiece)) (kn : (List SPiece) → Option R) : Option R :=
  s60_3 cp n v235 (fun v236 => s60_13 cp n v235 v236 (fun v244 => (kn v244)))
def s60_16 (cp : CP) (n : Nat) (v245 : (List SPiece)) (kr : Option R) : Option R :=
  kr
def s60_19 (cp : CP) (n : Nat) (v235 : (List SPiece)) (kr : (List SPiece) → Option R) : Option R :=
  s60_15 cp n v235 (fun v245 => s60_16 cp n v245 (kr v245))
def s60_21 (cp : CP) (n : Nat) (p0 : (List SPiece)) (p1 : SPiece) (kr : (List SPiece) → Option R) : Option R :=
  s60_1 cp n p0 p1 (fun v235 => s60_19 cp n v235 (fun v246 => (kr v246)))
def G60 (cp : CP) : Nat → (List SPiece) → SPiece → ((List SPiece) → Option R) → Option R
  | 0, _, _, _ => none
  | n + 1, p0, p1, k =>
    s60_21 cp n p0 p1 (fun v247 => k v247)
/-! tideway/recv.take$1 -/
def G1050 (cp : CP) : Nat → SSpan → SRecv → Int → (List Int) → Bool → (SRecv → Int → (List Int) → Bool → Option R) → Option R
  | 0, _, _, _, _, _, _ => none
  | n + 1, p0, q0, q1, q2, q3, k =>
    cond (decide (0 ≤ wr .i64 (p0.xFrom - q1))) (cond (decide (wr .i64 (p0.xFrom - q1) ≤ wr .i64 (p0.xTo - q1))) (cond (decide (wr .i64 (p0.xTo - q1) ≤ (q2.length : Int))) (G60 cp n q0.xLate (SPiece.mk p0.xFrom (List.take ((Int.toNat (wr .i64 (p0.xTo - q1))) - (Int.toNat (wr .i64 (p0.xFrom - q1)))) (q2.drop (Int.toNat (wr .i64 (p0.xFrom - q1)))))) (fun r248 => k (SRecv.mk q0.xNext q0.xUnread r248 q0.xCap q0.xShift q0.xEdge q0.xRecent q0.xStamps q0.xSacks q0.xFin q0.xDone q0.xFirst q0.xIrs q0.xOwn q0.xStamp) q1 q2 true)) (none)) (none)) (none)
/-! tideway/recv.take -/
def s34_1 (cp : CP) (n : Nat) (p0 : SRecv) (p1 : Int) (p2 : (List Int)) (kn : Int → Option R) : Option R :=
  G53 cp n p0 (fun r231 => cond (decide (0 ≤ p0.xFin)) (kn (mn (mn (wr .i64 (p1 + (p2.length : Int))) r231) p0.xFin)) (kn (mn (wr .i64 (p1 + (p2.length : Int))) r231)))
def s34_3 (cp : CP) (n : Nat) (p0 : SRecv) (p1 : Int) (p2 : (List Int)) (v232 : Int) (kn : SRecv → Option R) : Option R :=
  G55 cp n p0 (fun r233 => kn r233)
def s34_7 (cp : CP) (n : Nat) (p0 : SRecv) (p1 : Int) (p2 : (List Int)) (v232 : Int) (v234 : SRecv) (kn : Int → Option R) : Option R :=
  kn (v234.xLate.length : Int)
def s34_9 (cp : CP) (n : Nat) (p0 : SRecv) (p1 : Int) (p2 : (List Int)) (v232 : Int) (v234 : SRecv) (v235 v236 : Int) (v237 : (List SSpan)) (kn : Option R) (ke0 : Option R) : Option R :=
  cond (decide (v236 < v235)) (kn) (ke0)
def s34_12 (cp : CP) (n : Nat) (p0 : SRecv) (p1 : Int) (p2 : (List Int)) (v232 : Int) (v234 : SRecv) (v235 v236 : Int) (v237 : (List SSpan)) (kn : Int → (List Int) → Option R) : Option R :=
  cond (decide (0 ≤ v236)) (cond (decide (v236 < (v234.xLate.length : Int))) (kn ((v234.xLate.getD (Int.toNat v236) zPiece).xFrom) ((v234.xLate.getD (Int.toNat v236) zPiece).xData)) (none)) (none)
def s34_14 (cp : CP) (n : Nat) (p0 : SRecv) (p1 : Int) (p2 : (List Int)) (v232 : Int) (v234 : SRecv) (v235 v236 : Int) (v237 : (List SSpan)) (v238 : Int) (v239 : (List Int)) (ka : Int → Int → Option R) : Option R :=
  G71 cp n (SPiece.mk v238 v239) (fun r240 => ka r240.xFrom r240.xTo)
def s34_16 (cp : CP) (n : Nat) (p0 : SRecv) (p1 : Int) (p2 : (List Int)) (v232 : Int) (v234 : SRecv) (v237 : (List SSpan)) (v238 : Int) (v239 : (List Int)) (v241 v242 : Int) (kn : (List SSpan) → Option R) : Option R :=
  cond (cp (v237.length + [(SSpan.mk v241 v242)].length) 16) (kn (v237 ++ [(SSpan.mk v241 v242)])) (none)
def s34_22 (cp : CP) (n : Nat) (p0 : SRecv) (p1 : Int) (p2 : (List Int)) (v232 : Int) (v234 : SRecv) (v235 v236 : Int) (v237 : (List SSpan)) (v238 : Int) (v239 : (List Int)) (kn : (List SSpan) → Option R) : Option R :=
  s34_14 cp n p0 p1 p2 v232 v234 v235 v236 v237 v238 v239 (fun v241 v242 => s34_16 cp n p0 p1 p2 v232 v234 v237 v238 v239 v241 v242 (fun v243 => kn v243))
def s34_23 (cp : CP) (n : Nat) (p0 : SRecv) (p1 : Int) (p2 : (List Int)) (v232 : Int) (v234 : SRecv) (v235 v236 : Int) (v244 : (List SSpan)) (kn : Option R) : Option R :=
  kn
def s34_26 (cp : CP) (n : Nat) (p0 : SRecv) (p1 : Int) (p2 : (List Int)) (v232 : Int) (v234 : SRecv) (v235 v236 : Int) (v237 : (List SSpan)) (v238 : Int) (v239 : (List Int)) (kn : (List SSpan) → Option R) : Option R :=
  s34_22 cp n p0 p1 p2 v232 v234 v235 v236 v237 v238 v239 (fun v244 => s34_23 cp n p0 p1 p2 v232 v234 v235 v236 v244 (kn v244))
def s34_28 (cp : CP) (n : Nat) (p0 : SRecv) (p1 : Int) (p2 : (List Int)) (v232 : Int) (v234 : SRecv) (v235 v236 : Int) (v237 : (List SSpan)) (kn : (List SSpan) → Option R) : Option R :=
  s34_12 cp n p0 p1 p2 v232 v234 v235 v236 v237 (fun v238 v239 => s34_26 cp n p0 p1 p2 v232 v234 v235 v236 v237 v238 v239 (fun v245 => (kn v245)))
def s34_30 (cp : CP) (n : Nat) (p0 : SRecv) (p1 : Int) (p2 : (List Int)) (v232 : Int) (v234 : SRecv) (v235 v236 : Int) (v237 : (List SSpan)) (kn : (List SSpan) → Option R) : Option R :=
  s34_28 cp n p0 p1 p2 v232 v234 v235 v236 v237 (fun v246 => (kn v246))
def s34_31 (cp : CP) (n : Nat) (p0 : SRecv) (p1 : Int) (p2 : (List Int)) (v232 : Int) (v234 : SRecv) (v235 v236 : Int) (v247 : (List SSpan)) (kn : Int → Option R) : Option R :=
  kn (wr .i64 (v236 + 1))
def s34_34 (cp : CP) (n : Nat) (p0 : SRecv) (p1 : Int) (p2 : (List Int)) (v232 : Int) (v234 : SRecv) (v235 v236 : Int) (v237 : (List SSpan)) (kn : Int → (List SSpan) → Option R) : Option R :=
  s34_30 cp n p0 p1 p2 v232 v234 v235 v236 v237 (fun v247 => s34_31 cp n p0 p1 p2 v232 v234 v235 v236 v247 (fun v248 => (kn v248 v247)))
def s34_36 (cp : CP) (n : Nat) (p0 : SRecv) (p1 : Int) (p2 : (List Int)) (v232 : Int) (v234 : SRecv) (v235 v236 : Int) (v237 : (List SSpan)) (kn : Int → (List SSpan) → Option R) (ke0 : Option R) : Option R :=
  s34_9 cp n p0 p1 p2 v232 v234 v235 v236 v237 (s34_34 cp n p0 p1 p2 v232 v234 v235 v236 v237 (fun v249 v250 => (kn v249 v250))) ke0
def l34_38 (cp : CP) (n : Nat) : Nat → SRecv → Int → (List Int) → Int → SRecv → Int → Int → (List SSpan) → ((List SSpan) → Option R) → Option R
  | 0, _, _, _, _, _, _, _, _, _ => none
  | m + 1, p0, p1, p2, v232, v234, v235, v236, v237, ke0 =>
    s34_36 cp n p0 p1 p2 v232 v234 v235 v236 v237 (fun v251 v252 => l34_38 cp n m p0 p1 p2 v232 v234 v235 v251 v252 ke0) (ke0 v237)
def s34_39 (cp : CP) (n : Nat) (p0 : SRecv) (p1 : Int) (p2 : (List Int)) (v232 : Int) (v234 : SRecv) (v235 : Int) (ke0 : (List SSpan) → Option R) : Option R :=
  l34_38 cp n n p0 p1 p2 v232 v234 v235 0 [] ke0
def s34_41 (cp : CP) (n : Nat) (p0 : SRecv) (p1 : Int) (p2 : (List Int)) (v232 : Int) (v234 : SRecv) (v235 : Int) (kn : (List SSpan) → Option R) : Option R :=
  s34_39 cp n p0 p1 p2 v232 v234 v235 (fun v253 => (kn v253))
def s34_43 (cp : CP) (n : Nat) (p0 : SRecv) (p1 : Int) (p2 : (List Int)) (v232 : Int) (v234 : SRecv) (kn : (List SSpan) → Option R) : Option R :=
  s34_7 cp n p0 p1 p2 v232 v234 (fun v235 => s34_41 cp n p0 p1 p2 v232 v234 v235 (fun v254 => (kn v254)))
def s34_46 (cp : CP) (n : Nat) (p0 : SRecv) (p1 : Int) (p2 : (List Int)) (v232 : Int) (v234 : SRecv) (kn : (List SSpan) → Option R) : Option R :=
  s34_43 cp n p0 p1 p2 v232 v234 (fun v255 => (kn v255))
def s34_48 (cp : CP) (n : Nat) (p0 : SRecv) (p1 : Int) (p2 : (List Int)) (v232 : Int) (v234 : SRecv) (kn : (List SSpan) → Option R) : Option R :=
  s34_46 cp n p0 p1 p2 v232 v234 (fun v256 => (kn v256))
def s34_50 (cp : CP) (n : Nat) (p0 : SRecv) (p1 : Int) (p2 : (List Int)) (v232 : Int) (kn : (List SSpan) → Option R) : Option R :=
  s34_3 cp n p0 p1 p2 v232 (fun v234 => s34_48 cp n p0 p1 p2 v232 v234 (fun v257 => (kn v257)))
def s34_51 (cp : CP) (n : Nat) (p0 : SRecv) (p1 : Int) (p2 : (List Int)) (v232 : Int) (v258 : (List SSpan)) (kn : Option R) : Option R :=
  kn
def s34_53 (cp : CP) (n : Nat) (p0 : SRecv) (p1 : Int) (p2 : (List Int)) (v232 : Int) (v258 : (List SSpan)) (kn : Int → Bool → Option R) : Option R :=
  kn (mx p1 p0.xNext) (decide ((mx p1 p0.xNext) < v232))
def s34_55 (cp : CP) (n : Nat) (p0 : SRecv) (p1 : Int) (p2 : (List Int)) (v232 : Int) (v258 : (List SSpan)) (v259 : Int) (v260 : Bool) (kn : (List SSpan) → Int → Option R) : Option R :=
  G61 cp n v258 (SSpan.mk v259 v232) (fun r261 => kn r261 (r261.length : Int))
def s34_57 (cp : CP) (n : Nat) (v262 : (List SSpan)) (v263 v264 : Int) (v265 : SRecv) (v266 : Int) (v267 : (List Int)) (v268 : Bool) (kn : Int → SRecv → Int → (List Int) → Bool → Option R) (ke2 : Option R) : Option R :=
  cond (decide (v264 < v263)) (cond (decide (0 ≤ v264)) (cond (decide (v264 < (v262.length : Int))) (G1050 cp n (v262.getD (Int.toNat v264) zSpan) v265 v266 v267 v268 (fun r269 r270 r271 r272 => kn (wr .i64 (v264 + 1)) r269 r270 r271 r272)) (none)) (none)) (ke2)
def l34_62 (cp : CP) (n : Nat) : Nat → (List SSpan) → Int → Int → SRecv → Int → (List Int) → Bool → (SRecv → Bool → Option R) → Option R
  | 0, _, _, _, _, _, _, _, _ => none
  | m + 1, v262, v263, v264, v265, v266, v267, v268, ke2 =>
    s34_57 cp n v262 v263 v264 v265 v266 v267 v268 (fun v273 v274 v275 v276 v277 => l34_62 cp n m v262 v263 v273 v274 v275 v276 v277 ke2) (ke2 v265 v268)
def s34_63 (cp : CP) (n : Nat) (p0 : SRecv) (p1 : Int) (p2 : (List Int)) (v262 : (List SSpan)) (v263 : Int) (ke2 : SRecv → Bool → Option R) : Option R :=
  l34_62 cp n n v262 v263 0 p0 p1 p2 false ke2
def s34_65 (cp : CP) (n : Nat) (p0 : SRecv) (p1 : Int) (p2 : (List Int)) (v262 : (List SSpan)) (v263 : Int) (kn : SRecv → Bool → Option R) : Option R :=
  s34_63 cp n p0 p1 p2 v262 v263 (fun v278 v279 => (kn v278 v279))
def s34_67 (cp : CP) (n : Nat) (p0 : SRecv) (p1 : Int) (p2 : (List Int)) (v232 : Int) (v258 : (List SSpan)) (v259 : Int) (v260 : Bool) (kn : SRecv → Bool → Option R) : Option R :=
  s34_55 cp n p0 p1 p2 v232 v258 v259 v260 (fun v262 v263 => s34_65 cp n p0 p1 p2 v262 v263 (fun v280 v281 => (kn v280 v281)))
def s34_68 (cp : CP) (n : Nat) (p0 : SRecv) (p1 : Int) (p2 : (List Int)) (v232 : Int) (v258 : (List SSpan)) (v259 : Int) (v260 : Bool) (kn : Option R) : Option R :=
  kn
def s34_69 (cp : CP) (n : Nat) (p0 : SRecv) (p1 : Int) (p2 : (List Int)) (v232 : Int) (v258 : (List SSpan)) (v259 : Int) (v260 : Bool) (kn : SRecv → Bool → Option R) : Option R :=
  cond (v260) (s34_67 cp n p0 p1 p2 v232 v258 v259 v260 (fun v282 v283 => (kn v282 v283))) (s34_68 cp n p0 p1 p2 v232 v258 v259 v260 (kn p0 false))
def s34_72 (cp : CP) (n : Nat) (p0 : SRecv) (p1 : Int) (p2 : (List Int)) (v232 : Int) (v258 : (List SSpan)) (kn : SRecv → Bool → Option R) : Option R :=
  s34_53 cp n p0 p1 p2 v232 v258 (fun v259 v260 => s34_69 cp n p0 p1 p2 v232 v258 v259 v260 (fun v284 v285 => (kn v284 v285)))
def s34_73 (cp : CP) (n : Nat) (v287 : Bool) (v288 : SRecv) (kn : SRecv → Option R) (ke4 : Option R) : Option R :=
  cond (decide (0 < (v288.xLate.length : Int))) (cond (decide (0 < (v288.xLate.length : Int))) (cond (decide (((v288.xLate.getD 0 zPiece).xFrom) = v288.xNext)) (cond (decide (0 < (v288.xLate.length : Int))) (cond (cp (v288.xUnread.length + ((v288.xLate.getD 0 zPiece).xData).length) 1) (cond (decide (0 < (v288.xLate.length : Int))) (cond (decide (1 ≤ (v288.xLate.length : Int))) (kn (SRecv.mk (wr .i64 (v288.xNext + (((v288.xLate.getD 0 zPiece).xData).length : Int))) (v288.xUnread ++ ((v288.xLate.getD 0 zPiece).xData)) (List.take (v288.xLate.length - 1) (v288.xLate.drop 1)) v288.xCap v288.xShift v288.xEdge v288.xRecent v288.xStamps v288.xSacks v288.xFin v288.xDone v288.xFirst v288.xIrs v288.xOwn v288.xStamp)) (none)) (none)) (none)) (none)) (ke4)) (none)) (ke4)
def l34_77 (cp : CP) (n : Nat) : Nat → Bool → SRecv → (SRecv → Option R) → Option R
  | 0, _, _, _ => none
  | m + 1, v287, v288, ke4 =>
    s34_73 cp n v287 v288 (fun v289 => l34_77 cp n m v287 v289 ke4) (ke4 v288)
def s34_78 (cp : CP) (n : Nat) (v286 : SRecv) (v287 : Bool) (ke4 : SRecv → Option R) : Option R :=
  l34_77 cp n n v287 v286 ke4
def s34_80 (cp : CP) (n : Nat) (v286 : SRecv) (v287 : Bool) (ke4 : SRecv → Option R) : Option R :=
  s34_78 cp n v286 v287 ke4
def s34_82 (cp : CP) (n : Nat) (v286 : SRecv) (v287 : Bool) (kn : SRecv → Option R) : Option R :=
  s34_80 cp n v286 v287 (fun v290 => (kn v290))
def s34_83 (cp : CP) (n : Nat) (v287 : Bool) (v291 : SRecv) (kr : Option R) : Option R :=
  kr
def s34_86 (cp : CP) (n : Nat) (v286 : SRecv) (v287 : Bool) (kr : SRecv → Option R) : Option R :=
  s34_82 cp n v286 v287 (fun v291 => s34_83 cp n v287 v291 (kr v291))
def s34_88 (cp : CP) (n : Nat) (p0 : SRecv) (p1 : Int) (p2 : (List Int)) (v232 : Int) (v258 : (List SSpan)) (kr : Bool → SRecv → Option R) : Option R :=
  s34_72 cp n p0 p1 p2 v232 v258 (fun v286 v287 => s34_86 cp n v286 v287 (fun v292 => (kr v287 v292)))
def s34_90 (cp : CP) (n : Nat) (p0 : SRecv) (p1 : Int) (p2 : (List Int)) (v232 : Int) (v258 : (List SSpan)) (kr : Bool → SRecv → Option R) : Option R :=
  s34_51 cp n p0 p1 p2 v232 v258 (s34_88 cp n p0 p1 p2 v232 v258 (fun v293 v294 => (kr v293 v294)))
def s34_92 (cp : CP) (n : Nat) (p0 : SRecv) (p1 : Int) (p2 : (List Int)) (v232 : Int) (kr : Bool → SRecv → Option R) : Option R :=
  s34_50 cp n p0 p1 p2 v232 (fun v258 => s34_90 cp n p0 p1 p2 v232 v258 (fun v295 v296 => (kr v295 v296)))
def s34_94 (cp : CP) (n : Nat) (p0 : SRecv) (p1 : Int) (p2 : (List Int)) (kr : Bool → SRecv → Option R) : Option R :=
  s34_1 cp n p0 p1 p2 (fun v232 => s34_92 cp n p0 p1 p2 v232 (fun v297 v298 => (kr v297 v298)))
def G34 (cp : CP) : Nat → SRecv → Int → (List Int) → (SRecv → Bool → Option R) → Option R
  | 0, _, _, _, _ => none
  | n + 1, p0, p1, p2, k =>
    s34_94 cp n p0 p1 p2 (fun v299 v300 => k v300 v299)
/-! tideway/recv.firsts$1 -/
def G1059 (cp : CP) : Nat → SSpan → SSpan → (Bool → SSpan → Option R) → Option R
  | 0, _, _, _ => none
  | n + 1, p0, q0, k =>
    cond (decide (p0.xFrom ≤ q0.xFrom)) (k (decide (q0.xTo ≤ p0.xTo)) q0) (k false q0)
/-! slices.IndexFunc[[]tideway/api.Span,tideway/api.Span] -/
def s1058_1 (cp : CP) (n : Nat) (p0 : (List SSpan)) (q0 : SSpan) (kn : Option R) : Option R :=
  kn
def s1058_3 (cp : CP) (n : Nat) (p0 : (List SSpan)) (q0 : SSpan) (kn : Int → Option R) : Option R :=
  kn (p0.length : Int)
def s1058_5 (cp : CP) (n : Nat) (p0 : (List SSpan)) (v318 v319 v320 v321 : Int) (kn : Int → Int → Int → Option R) (kr : Int → Int → Option R) (ke0 : Option R) : Option R :=
  cond (decide (v319 < v318)) (cond (decide (0 ≤ v319)) (cond (decide (v319 < (p0.length : Int))) (G1059 cp n (p0.getD (Int.toNat v319) zSpan) (SSpan.mk v320 v321) (fun r322 r323 => cond (r322) (kr r323.xFrom r323.xTo) (kn (wr .i64 (v319 + 1)) r323.xFrom r323.xTo))) (none)) (none)) (ke0)
def l1058_12 (cp : CP) (n : Nat) : Nat → (List SSpan) → Int → Int → Int → Int → (Int → Int → Int → Option R) → (Int → Int → Option R) → Option R
  | 0, _, _, _, _, _, _, _ => none
  | m + 1, p0, v318, v319, v320, v321, kr, ke0 =>
    s1058_5 cp n p0 v318 v319 v320 v321 (fun v324 v325 v326 => l1058_12 cp n m p0 v318 v324 v325 v326 kr ke0) (fun v327 v328 => (kr v319 v327 v328)) (ke0 v320 v321)
def s1058_13 (cp : CP) (n : Nat) (p0 : (List SSpan)) (q0 : SSpan) (v318 : Int) (kr : Int → Int → Int → Option R) (ke0 : Int → Int → Option R) : Option R :=
  l1058_12 cp n n p0 v318 0 q0.xFrom q0.xTo kr ke0
def s1058_16 (cp : CP) (n : Nat) (p0 : (List SSpan)) (q0 : SSpan) (v318 : Int) (kn : Int → Int → Option R) (kr : Int → Int → Int → Option R) : Option R :=
  s1058_13 cp n p0 q0 v318 (fun v329 v330 v331 => (kr v329 v330 v331)) (fun v332 v333 => (kn v332 v333))
def s1058_19 (cp : CP) (n : Nat) (p0 : (List SSpan)) (q0 : SSpan) (kn : Int → Int → Option R) (kr : Int → Int → Int → Option R) : Option R :=
  s1058_3 cp n p0 q0 (fun v318 => s1058_16 cp n p0 q0 v318 (fun v334 v335 => (kn v334 v335)) (fun v336 v337 v338 => (kr v336 v337 v338)))
def s1058_20 (cp : CP) (n : Nat) (v339 v340 : Int) (kr : Option R) : Option R :=
  kr
def s1058_23 (cp : CP) (n : Nat) (p0 : (List SSpan)) (q0 : SSpan) (kr : Int → Int → Int → Option R) : Option R :=
  s1058_19 cp n p0 q0 (fun v339 v340 => s1058_20 cp n v339 v340 (kr (-1) v339 v340)) (fun v341 v342 v343 => (kr v341 v342 v343))
def s1058_25 (cp : CP) (n : Nat) (p0 : (List SSpan)) (q0 : SSpan) (kr : Int → Int → Int → Option R) : Option R :=
  s1058_1 cp n p0 q0 (s1058_23 cp n p0 q0 (fun v344 v345 v346 => (kr v344 v345 v346)))
def G1058 (cp : CP) : Nat → (List SSpan) → SSpan → (Int → SSpan → Option R) → Option R
  | 0, _, _, _ => none
  | n + 1, p0, q0, k =>
    s1058_25 cp n p0 q0 (fun v347 v348 v349 => k v347 (SSpan.mk v348 v349))
/-! tideway/recv.firsts -/
def s35_1 (cp : CP) (n : Nat) (p0 : SRecv) (p1 : Int) (p2 : (List Int)) (kn : (List SSpan) → Option R) : Option R :=
  G55 cp n p0 (fun r306 => G1007 cp n r306 (fun r307 r308 => kn r307))
def s35_3 (cp : CP) (n : Nat) (p0 : SRecv) (p1 : Int) (p2 : (List Int)) (v309 : (List SSpan)) (kn : Int → Option R) : Option R :=
  kn (wr .i64 ((v309.length : Int) - 1))
def s35_5 (cp : CP) (n : Nat) (p0 : SRecv) (p1 : Int) (p2 : (List Int)) (v309 : (List SSpan)) (v311 : Int) (kn : Int → Option R) (ke0 : (List SSpan) → Option R) : Option R :=
  cond (decide (0 ≤ v311)) (cond (decide (0 ≤ v311)) (cond (decide (v311 < (v309.length : Int))) (cond (decide (((v309.getD (Int.toNat v311) zSpan).xFrom) < (wr .i64 (p1 + (p2.length : Int))))) (cond (decide (0 ≤ v311)) (cond (decide (v311 < (v309.length : Int))) (cond (decide (p1 < ((v309.getD (Int.toNat v311) zSpan).xTo))) (cond (decide (0 < (p2.length : Int))) (cond (decide (0 ≤ v311)) (cond (decide (v311 < (v309.length : Int))) (cond (cp ([(v309.getD (Int.toNat v311) zSpan)].length + p0.xFirst.length) 16) (ke0 ([(v309.getD (Int.toNat v311) zSpan)] ++ p0.xFirst)) (none)) (none)) (none)) (kn (wr .i64 (v311 - 1)))) (kn (wr .i64 (v311 - 1)))) (none)) (none)) (kn (wr .i64 (v311 - 1)))) (none)) (none)) (ke0 p0.xFirst)
def l35_10 (cp : CP) (n : Nat) : Nat → SRecv → Int → (List Int) → (List SSpan) → Int → ((List SSpan) → Option R) → Option R
  | 0, _, _, _, _, _, _ => none
  | m + 1, p0, p1, p2, v309, v311, ke0 =>
    s35_5 cp n p0 p1 p2 v309 v311 (fun v312 => l35_10 cp n m p0 p1 p2 v309 v312 ke0) (fun v313 => (ke0 v313))
def s35_11 (cp : CP) (n : Nat) (p0 : SRecv) (p1 : Int) (p2 : (List Int)) (v309 : (List SSpan)) (v310 : Int) (ke0 : (List SSpan) → Option R) : Option R :=
  l35_10 cp n n p0 p1 p2 v309 v310 ke0
def s35_13 (cp : CP) (n : Nat) (p0 : SRecv) (p1 : Int) (p2 : (List Int)) (v309 : (List SSpan)) (v310 : Int) (kn : (List SSpan) → Option R) : Option R :=
  s35_11 cp n p0 p1 p2 v309 v310 (fun v314 => (kn v314))
def s35_15 (cp : CP) (n : Nat) (p0 : SRecv) (p1 : Int) (p2 : (List Int)) (v309 : (List SSpan)) (kn : (List SSpan) → Option R) : Option R :=
  s35_3 cp n p0 p1 p2 v309 (fun v310 => s35_13 cp n p0 p1 p2 v309 v310 (fun v315 => (kn v315)))
def s35_16 (cp : CP) (n : Nat) (v309 v316 : (List SSpan)) (kn : Option R) : Option R :=
  kn
def s35_18 (cp : CP) (n : Nat) (v309 v316 : (List SSpan)) (kn : Int → Option R) : Option R :=
  kn (v316.length : Int)
def s35_20 (cp : CP) (n : Nat) (v309 v316 : (List SSpan)) (v317 : Int) (v318 : (List SSpan)) (v319 : Int) (kn : (List SSpan) → Int → Option R) (ke2 : Option R) : Option R :=
  cond (decide (v319 < v317)) (cond (decide (0 ≤ v319)) (cond (decide (v319 < (v316.length : Int))) (G1058 cp n v309 (v316.getD (Int.toNat v319) zSpan) (fun r320 r321 => cond (decide (0 ≤ r320)) (cond (decide (0 ≤ r320)) (cond (decide (r320 < (v309.length : Int))) (G56 cp n v318 (v309.getD (Int.toNat r320) zSpan) (fun r322 => cond (!r322) (cond (decide (0 ≤ r320)) (cond (decide (r320 < (v309.length : Int))) (cond (cp (v318.length + [(v309.getD (Int.toNat r320) zSpan)].length) 16) (kn (v318 ++ [(v309.getD (Int.toNat r320) zSpan)]) (wr .i64 (v319 + 1))) (none)) (none)) (none)) (kn v318 (wr .i64 (v319 + 1))))) (none)) (none)) (kn v318 (wr .i64 (v319 + 1))))) (none)) (none)) (ke2)
def l35_25 (cp : CP) (n : Nat) : Nat → (List SSpan) → (List SSpan) → Int → (List SSpan) → Int → ((List SSpan) → Option R) → Option R
  | 0, _, _, _, _, _, _ => none
  | m + 1, v309, v316, v317, v318, v319, ke2 =>
    s35_20 cp n v309 v316 v317 v318 v319 (fun v323 v324 => l35_25 cp n m v309 v316 v317 v323 v324 ke2) (ke2 v318)
def s35_26 (cp : CP) (n : Nat) (v309 v316 : (List SSpan)) (v317 : Int) (ke2 : (List SSpan) → Option R) : Option R :=
  l35_25 cp n n v309 v316 v317 [] 0 ke2
def s35_28 (cp : CP) (n : Nat) (v309 v316 : (List SSpan)) (v317 : Int) (kn : (List SSpan) → Option R) : Option R :=
  s35_26 cp n v309 v316 v317 (fun v325 => (kn v325))
def s35_30 (cp : CP) (n : Nat) (v309 v316 : (List SSpan)) (kn : (List SSpan) → Option R) : Option R :=
  s35_18 cp n v309 v316 (fun v317 => s35_28 cp n v309 v316 v317 (fun v326 => (kn v326)))
def s35_31 (cp : CP) (n : Nat) (v327 : (List SSpan)) (kr : Option R) : Option R :=
  kr
def s35_34 (cp : CP) (n : Nat) (v309 v316 : (List SSpan)) (kr : (List SSpan) → Option R) : Option R :=
  s35_30 cp n v309 v316 (fun v327 => s35_31 cp n v327 (kr v327))
def s35_36 (cp : CP) (n : Nat) (v309 v316 : (List SSpan)) (kr : (List SSpan) → Option R) : Option R :=
  s35_16 cp n v309 v316 (s35_34 cp n v309 v316 (fun v328 => (kr v328)))
def s35_38 (cp : CP) (n : Nat) (p0 : SRecv) (p1 : Int) (p2 : (List Int)) (v309 : (List SSpan)) (kr : (List SSpan) → Option R) : Option R :=
  s35_15 cp n p0 p1 p2 v309 (fun v316 => s35_36 cp n v309 v316 (fun v329 => (kr v329)))
def s35_40 (cp : CP) (n : Nat) (p0 : SRecv) (p1 : Int) (p2 : (List Int)) (kr : (List SSpan) → Option R) : Option R :=
  s35_1 cp n p0 p1 p2 (fun v309 => s35_38 cp n p0 p1 p2 v309 (fun v330 => (kr v330)))
def G35 (cp : CP) : Nat → SRecv → Int → (List Int) → ((List SSpan) → Option R) → Option R
  | 0, _, _, _, _ => none
  | n + 1, p0, p1, p2, k =>
    s35_40 cp n p0 p1 p2 (fun v331 => k v331)
/-! tideway/recv.Input -/
def s12_1 (cp : CP) (n : Nat) (p0 : SRecv) (p1 : SSegment) (kn : Int → SRecv → Option R) (kr : Int → SRecv → Option R) : Option R :=
  G10 cp n p0 (fun r75 => cond (!decide (r75 = 0)) (kr r75 (SRecv.mk 0 [] [] 0 0 0 0 false false 0 false [] 0 0 false)) (G29 cp n p0 (fun r76 => cond (r76.xStamps) (cond (!p1.xStamped) (kr 0 r76) (G30 cp n r76.xNext (wr .u32 (p1.xSeq - r76.xIrs)) (fun r77 => kn r77 r76))) (G30 cp n r76.xNext (wr .u32 (p1.xSeq - r76.xIrs)) (fun r78 => kn r78 r76)))))
def s12_4 (cp : CP) (n : Nat) (p1 : SSegment) (v79 : Int) (v80 : SRecv) (kn : Option R) (kr : SRecv → SSegment → Option R) : Option R :=
  cond (v80.xStamps) (cond (v80.xStamp) (G31 cp n v80.xRecent p1.xVal (fun r83 => cond (decide (r83 < 0)) (G32 cp n v80 [] (fun r84 r85 => kr r84 r85)) (kn))) (kn)) (kn)
def s12_6 (cp : CP) (n : Nat) (p1 : SSegment) (v79 : Int) (v80 : SRecv) (kn : Int → Bool → Option R) : Option R :=
  cond (v80.xStamps) (cond (decide (v79 ≤ v80.xNext)) (kn p1.xVal true) (kn v80.xRecent v80.xStamp)) (kn v80.xRecent v80.xStamp)
def s12_8 (cp : CP) (n : Nat) (p1 : SSegment) (v79 : Int) (v80 : SRecv) (v88 : Int) (v89 : Bool) (kn : Bool → SRecv → Option R) : Option R :=
  cond (decide (0 < (bits .and .i64 p1.xFlags 1))) (G33 cp n (SRecv.mk v80.xNext v80.xUnread v80.xLate v80.xCap v80.xShift v80.xEdge v88 v80.xStamps v80.xSacks v80.xFin v80.xDone v80.xFirst v80.xIrs v80.xOwn v89) (wr .i64 (v79 + (p1.xData.length : Int))) (fun r96 => G34 cp n (SRecv.mk v80.xNext v80.xUnread v80.xLate v80.xCap v80.xShift v80.xEdge v88 v80.xStamps v80.xSacks r96 v80.xDone v80.xFirst v80.xIrs v80.xOwn v89) v79 p1.xData (fun r97 r98 => kn r98 (SRecv.mk r97.xNext r97.xUnread r97.xLate r97.xCap r97.xShift r97.xEdge r97.xRecent r97.xStamps r97.xSacks r97.xFin (decide (r97.xFin = r97.xNext)) r97.xFirst r97.xIrs r97.xOwn r97.xStamp)))) (G34 cp n (SRecv.mk v80.xNext v80.xUnread v80.xLate v80.xCap v80.xShift v80.xEdge v88 v80.xStamps v80.xSacks v80.xFin v80.xDone v80.xFirst v80.xIrs v80.xOwn v89) v79 p1.xData (fun r99 r100 => kn r100 (SRecv.mk r99.xNext r99.xUnread r99.xLate r99.xCap r99.xShift r99.xEdge r99.xRecent r99.xStamps r99.xSacks r99.xFin (decide (r99.xFin = r99.xNext)) r99.xFirst r99.xIrs r99.xOwn r99.xStamp)))
def s12_10 (cp : CP) (n : Nat) (p1 : SSegment) (v79 : Int) (v101 : Bool) (v102 : SRecv) (kn : (List SSpan) → Option R) : Option R :=
  G35 cp n v102 v79 p1.xData (fun r104 => kn r104)
def s12_12 (cp : CP) (n : Nat) (p1 : SSegment) (v79 : Int) (v101 : Bool) (v102 : SRecv) (v105 : (List SSpan)) (kn : (List SBlock) → Option R) : Option R :=
  cond (v102.xSacks) (cond (decide (0 < (p1.xData.length : Int))) (cond (decide (0 ≤ v79)) (cond (!v101) (G36 cp n p1.xSeq (p1.xData.length : Int) (fun r106 => kn [(SBlock.mk p1.xSeq r106)])) (kn [])) (kn [])) (kn [])) (kn [])
def s12_14 (cp : CP) (n : Nat) (v102 : SRecv) (v105 : (List SSpan)) (v107 : (List SBlock)) (kr : SRecv → SSegment → Option R) : Option R :=
  G32 cp n (SRecv.mk v102.xNext v102.xUnread v102.xLate v102.xCap v102.xShift v102.xEdge v102.xRecent v102.xStamps v102.xSacks v102.xFin v102.xDone v105 v102.xIrs v102.xOwn v102.xStamp) v107 (fun r108 r109 => kr r108 r109)
def s12_17 (cp : CP) (n : Nat) (p1 : SSegment) (v79 : Int) (v101 : Bool) (v102 : SRecv) (v105 : (List SSpan)) (kr : SRecv → SSegment → Option R) : Option R :=
  s12_12 cp n p1 v79 v101 v102 v105 (fun v107 => s12_14 cp n v102 v105 v107 (fun v110 v111 => (kr v110 v111)))
def s12_19 (cp : CP) (n : Nat) (p1 : SSegment) (v79 : Int) (v101 : Bool) (v102 : SRecv) (kr : SRecv → SSegment → Option R) : Option R :=
  s12_10 cp n p1 v79 v101 v102 (fun v105 => s12_17 cp n p1 v79 v101 v102 v105 (fun v112 v113 => (kr v112 v113)))
def s12_21 (cp : CP) (n : Nat) (p1 : SSegment) (v79 : Int) (v80 : SRecv) (v88 : Int) (v89 : Bool) (kr : SRecv → SSegment → Option R) : Option R :=
  s12_8 cp n p1 v79 v80 v88 v89 (fun v101 v102 => s12_19 cp n p1 v79 v101 v102 (fun v114 v115 => (kr v114 v115)))
def s12_23 (cp : CP) (n : Nat) (p1 : SSegment) (v79 : Int) (v80 : SRecv) (kr : SRecv → SSegment → Option R) : Option R :=
  s12_6 cp n p1 v79 v80 (fun v88 v89 => s12_21 cp n p1 v79 v80 v88 v89 (fun v116 v117 => (kr v116 v117)))
def s12_25 (cp : CP) (n : Nat) (p1 : SSegment) (v79 : Int) (v80 : SRecv) (kr : SRecv → SSegment → Option R) : Option R :=
  s12_4 cp n p1 v79 v80 (s12_23 cp n p1 v79 v80 (fun v118 v119 => (kr v118 v119))) (fun v86 v87 => (kr v86 v87))
def s12_27 (cp : CP) (n : Nat) (p0 : SRecv) (p1 : SSegment) (kr : Bool → Int → SRecv → SSegment → Option R) : Option R :=
  s12_1 cp n p0 p1 (fun v79 v80 => s12_25 cp n p1 v79 v80 (fun v120 v121 => (kr true 0 v120 v121))) (fun v81 v82 => (kr false v81 v82 (SSegment.mk 0 0 0 0 0 0 0 0 0 false false 0 0 [] [])))
def G12 (cp : CP) : Nat → SRecv → SSegment → (SRecv → SSegment → Bool → Int → Option R) → Option R
  | 0, _, _, _ => none
  | n + 1, p0, p1, k =>
    s12_27 cp n p0 p1 (fun v122 v123 v124 v125 => k v124 v125 v122 v123)
/-! tideway/tidewaylaw08.heads -/
def s11_1 (cp : CP) (n : Nat) (kn : Int → Bool → Int → Bool → Int → (List Int) → Int → SRecv → SSegment → SRecv → SSegment → SRecv → Option R) : Option R :=
  G17 cp n 10 0 100 7 false true (fun r85 r86 => G12 cp n r85 (SSegment.mk 0 0 102 0 0 0 0 0 0 false false 0 0 [] [99, 100]) (fun r87 r88 r89 r90 => G12 cp n r87 (SSegment.mk 0 0 100 0 0 0 0 0 0 false false 0 0 [] [97, 98]) (fun r91 r92 r93 r94 => G20 cp n r91 3 (fun r95 r96 r97 r98 r99 => kn r86 r89 r90 r93 r94 r96 r99 r85 r88 r91 r92 r95))))
def s11_3 (cp : CP) (n : Nat) (v100 : Int) (v101 : Bool) (v102 : Int) (v103 : Bool) (v104 : Int) (v105 : (List Int)) (v106 : Int) (v107 : SRecv) (v108 : SSegment) (v109 : SRecv) (v110 : SSegment) (v111 : SRecv) (kr : Bool → Option R) : Option R :=
  G17 cp n 0 0 0 0 false false (fun r112 r113 => cond (!decide (v100 = 0)) (kr false) (cond (!decide (v102 = 0)) (kr false) (cond (!decide (v104 = 0)) (kr false) (cond (!decide (v106 = 0)) (kr false) (cond (!v101) (kr false) (cond (!v103) (kr false) (cond (!decide (r113 = 2)) (kr false) (cond (decide (v108.xAck = 100)) (cond (decide ((v108.xSacks.length : Int) = 1)) (cond (decide (0 < (v108.xSacks.length : Int))) (cond ((decide ((v108.xSacks.getD 0 zBlock).xFrom = 102) && (decide ((v108.xSacks.getD 0 zBlock).xTo = 104) && true))) (cond (decide (v110.xAck = 104)) (cond (((strOfNums v109.xUnread).data.toList == str_abcd.data.toList)) (cond (((strOfNums v105).data.toList == str_abc.data.toList)) (cond (((strOfNums v111.xUnread).data.toList == str_d.data.toList)) (G22 cp n v107 (fun r114 => kr (decide (r114 = 10)))) (kr false)) (kr false)) (kr false)) (kr false)) (kr false)) (none)) (kr false)) (kr false)))))))))
def s11_6 (cp : CP) (n : Nat) (kr : Bool → Option R) : Option R :=
  s11_1 cp n (fun v100 v101 v102 v103 v104 v105 v106 v107 v108 v109 v110 v111 => s11_3 cp n v100 v101 v102 v103 v104 v105 v106 v107 v108 v109 v110 v111 (fun v115 => (kr v115)))
def G11 (cp : CP) : Nat → (Bool → Option R) → Option R
  | 0, _ => none
  | n + 1, k =>
    s11_6 cp n (fun v116 => k v116)
/-! tideway/tidewaylaw08.RecvReads -/
def s9_1 (cp : CP) (n : Nat) (p0 : SRecv) (p1 : Int) (kn : (List Int) → Bool → Int → (List Int) → Bool → Int → SRecv → SSegment → SRecv → SSegment → SRecv → SSegment → SRecv → SSegment → Option R) : Option R :=
  G20 cp n p0 p1 (fun r28 r29 r30 r31 r32 => G24 cp n p0 p1 (fun r33 r34 r35 r36 r37 => G23 cp n p0 (fun r38 r39 => G25 cp n p0 (fun r40 r41 => kn r29 r31 r32 r34 r36 r37 r28 r30 r33 r35 r38 r39 r40 r41))))
def s9_3 (cp : CP) (n : Nat) (p0 : SRecv) (v42 : (List Int)) (v43 : Bool) (v44 : Int) (v45 : (List Int)) (v46 : Bool) (v47 : Int) (v48 : SRecv) (v49 : SSegment) (v50 : SRecv) (v51 : SSegment) (v52 : SRecv) (v53 : SSegment) (v54 : SRecv) (v55 : SSegment) (kn : Bool → Option R) : Option R :=
  G14 cp n v48 v50 (fun r56 => cond (r56) (G21 cp n v42 v45 (fun r57 => cond (r57) (G15 cp n v49 v51 (fun r58 => cond (r58) (cond ((v43 == v46)) (cond (decide (v44 = v47)) (G14 cp n v52 v54 (fun r59 => cond (r59) (G15 cp n v53 v55 (fun r60 => cond (r60) (G22 cp n p0 (fun r63 => G26 cp n p0 (fun r66 => cond (decide (r63 = r66)) (G11 cp n (fun r117 => kn r117)) (kn false)))) (kn false))) (kn false))) (kn false)) (kn false)) (kn false))) (kn false))) (kn false))
def s9_5 (cp : CP) (n : Nat) (v118 : Bool) (kr : Option R) : Option R :=
  kr
def s9_7 (cp : CP) (n : Nat) (p0 : SRecv) (v42 : (List Int)) (v43 : Bool) (v44 : Int) (v45 : (List Int)) (v46 : Bool) (v47 : Int) (v48 : SRecv) (v49 : SSegment) (v50 : SRecv) (v51 : SSegment) (v52 : SRecv) (v53 : SSegment) (v54 : SRecv) (v55 : SSegment) (kr : Bool → Option R) : Option R :=
  s9_3 cp n p0 v42 v43 v44 v45 v46 v47 v48 v49 v50 v51 v52 v53 v54 v55 (fun v118 => s9_5 cp n v118 (kr v118))
def s9_9 (cp : CP) (n : Nat) (p0 : SRecv) (p1 : Int) (kr : Bool → Option R) : Option R :=
  s9_1 cp n p0 p1 (fun v42 v43 v44 v45 v46 v47 v48 v49 v50 v51 v52 v53 v54 v55 => s9_7 cp n p0 v42 v43 v44 v45 v46 v47 v48 v49 v50 v51 v52 v53 v54 v55 (fun v119 => (kr v119)))
def G9 (cp : CP) : Nat → SRecv → Int → (Bool → Option R) → Option R
  | 0, _, _, _ => none
  | n + 1, p0, p1, k =>
    s9_9 cp n p0 p1 (fun v120 => k v120)
def ca27 (cp : CP) (n : Nat) (av : Fr) (cs : List Fr) (k : Ret2 RW → Option R) : Option R := match av, cs with
  | [y0], [] => (dA y0).bind fun c0_ => (dRecv c0_).bind fun p0 => G27 cp n p0 (fun r0 => k ⟨(tL r0), [], []⟩)
  | _, _ => none
def ca53 (cp : CP) (n : Nat) (av : Fr) (cs : List Fr) (k : Ret2 RW → Option R) : Option R := match av, cs with
  | [y0], [] => (dA y0).bind fun c0_ => (dRecv c0_).bind fun p0 => G53 cp n p0 (fun r0 => k ⟨(tL r0), [], []⟩)
  | _, _ => none
def ca55 (cp : CP) (n : Nat) (av : Fr) (cs : List Fr) (k : Ret2 RW → Option R) : Option R := match av, cs with
  | [y0], [] => (dA y0).bind fun c0_ => (dRecv c0_).bind fun p0 => G55 cp n p0 (fun r0 => k ⟨.clo 70 [(4, 0)], [], [(eRecv r0)]⟩)
  | _, _ => none
def ca71 (cp : CP) (n : Nat) (av : Fr) (cs : List Fr) (k : Ret2 RW → Option R) : Option R := match av, cs with
  | [y0], [] => (dA y0).bind fun c0_ => (dPiece c0_).bind fun p0 => G71 cp n p0 (fun r0 => k ⟨.agg (eSpan r0), [], []⟩)
  | _, _ => none
def ca1008 (cp : CP) (n : Nat) (av : Fr) (cs : List Fr) (k : Ret2 RW → Option R) : Option R := match av, cs with
  | [y0, y1], [w0] => (dRSpan true y0).bind fun p0 => (dC 70 [(32, 0)] y1).bind fun _ => (dRecv w0).bind fun q0 => G1008 cp n p0 q0 (fun r0 r1 => k ⟨.row false (.rSpan r0), [(eRecv r1)], []⟩)
  | _, _ => none
def ca1007 (cp : CP) (n : Nat) (av : Fr) (cs : List Fr) (k : Ret2 RW → Option R) : Option R := match av, cs with
  | [y0], [w0] => (dC 70 [(5, 0)] y0).bind fun _ => (dRecv w0).bind fun q0 => G1007 cp n q0 (fun r0 r1 => k ⟨.row false (.rSpan r0), [(eRecv r1)], []⟩)
  | _, _ => none
def ca72 (cp : CP) (n : Nat) (av : Fr) (cs : List Fr) (k : Ret2 RW → Option R) : Option R := match av, cs with
  | [y0, y1], [] => (dRSpan false y0).bind fun p0 => (dA y1).bind fun c1_ => (dSpan c1_).bind fun p1 => G72 cp n p0 p1 (fun r0 => k ⟨(tL r0), [], []⟩)
  | _, _ => none
def ca56 (cp : CP) (n : Nat) (av : Fr) (cs : List Fr) (k : Ret2 RW → Option R) : Option R := match av, cs with
  | [y0, y1], [] => (dRSpan false y0).bind fun p0 => (dA y1).bind fun c1_ => (dSpan c1_).bind fun p1 => G56 cp n p0 p1 (fun r0 => k ⟨(tB r0), [], []⟩)
  | _, _ => none
def ca28 (cp : CP) (n : Nat) (av : Fr) (cs : List Fr) (k : Ret2 RW → Option R) : Option R := match av, cs with
  | [y0], [] => (dA y0).bind fun c0_ => (dRecv c0_).bind fun p0 => G28 cp n p0 (fun r0 => k ⟨(tB r0), [], []⟩)
  | _, _ => none
def ca10 (cp : CP) (n : Nat) (av : Fr) (cs : List Fr) (k : Ret2 RW → Option R) : Option R := match av, cs with
  | [y0], [] => (dA y0).bind fun c0_ => (dRecv c0_).bind fun p0 => G10 cp n p0 (fun r0 => k ⟨(tL r0), [], []⟩)
  | _, _ => none
def ca57 (cp : CP) (n : Nat) (av : Fr) (cs : List Fr) (k : Ret2 RW → Option R) : Option R := match av, cs with
  | [y0], [] => (dRSpan false y0).bind fun p0 => G57 cp n p0 (fun r0 => k ⟨.row true (.rSpan r0), [], []⟩)
  | _, _ => none
def ca52 (cp : CP) (n : Nat) (av : Fr) (cs : List Fr) (k : Ret2 RW → Option R) : Option R := match av, cs with
  | [y0], [] => (dRuint8 false y0).bind fun p0 => G52 cp n p0 (fun r0 => k ⟨.row true (.ruint8 r0), [], []⟩)
  | _, _ => none
def ca29 (cp : CP) (n : Nat) (av : Fr) (cs : List Fr) (k : Ret2 RW → Option R) : Option R := match av, cs with
  | [y0], [] => (dA y0).bind fun c0_ => (dRecv c0_).bind fun p0 => G29 cp n p0 (fun r0 => k ⟨.agg (eRecvt r0), [], []⟩)
  | _, _ => none
def ca51 (cp : CP) (n : Nat) (av : Fr) (cs : List Fr) (k : Ret2 RW → Option R) : Option R := match av, cs with
  | [y0, y1, y2], [] => (dI .i64 y0).bind fun p0 => (dI .i64 y1).bind fun p1 => (dI .i64 y2).bind fun p2 => G51 cp n p0 p1 p2 (fun r0 => k ⟨(tL r0), [], []⟩)
  | _, _ => none
def ca49 (cp : CP) (n : Nat) (av : Fr) (cs : List Fr) (k : Ret2 RW → Option R) : Option R := match av, cs with
  | [y0], [] => (dA y0).bind fun c0_ => (dRecv c0_).bind fun p0 => G49 cp n p0 (fun r0 => k ⟨(tL r0), [], []⟩)
  | _, _ => none
def ca36 (cp : CP) (n : Nat) (av : Fr) (cs : List Fr) (k : Ret2 RW → Option R) : Option R := match av, cs with
  | [y0, y1], [] => (dI .u32 y0).bind fun p0 => (dI .i64 y1).bind fun p1 => G36 cp n p0 p1 (fun r0 => k ⟨(tI .u32 r0), [], []⟩)
  | _, _ => none
def ca32 (cp : CP) (n : Nat) (av : Fr) (cs : List Fr) (k : Ret2 RW → Option R) : Option R := match av, cs with
  | [y0, y1], [] => (dA y0).bind fun c0_ => (dRecv c0_).bind fun p0 => (dRBlock true y1).bind fun p1 => G32 cp n p0 p1 (fun r0 r1 => k ⟨.tup [.agg (eRecv r0), .agg [(tL r1.xSrcPort), (tL r1.xDstPort), (tI .u32 r1.xSeq), (tI .u32 r1.xAck), (tL r1.xFlags), (tL r1.xWin), (tL r1.xUrg), (tL r1.xMss), (tL r1.xScale), (tB r1.xSackOk), (tB r1.xStamped), (tI .u32 r1.xVal), (tI .u32 r1.xEcr), .row true (.rBlock r1.xSacks), .row false (.ruint8 r1.xData)]], [], []⟩)
  | _, _ => none
def ca20 (cp : CP) (n : Nat) (av : Fr) (cs : List Fr) (k : Ret2 RW → Option R) : Option R := match av, cs with
  | [y0, y1], [] => (dA y0).bind fun c0_ => (dRecv c0_).bind fun p0 => (dI .i64 y1).bind fun p1 => G20 cp n p0 p1 (fun r0 r1 r2 r3 r4 => k ⟨.tup [.agg (eRecv r0), .row false (.ruint8 r1), .agg (eSegment r2), (tB r3), (tL r4)], [], []⟩)
  | _, _ => none
def ca46 (cp : CP) (n : Nat) (av : Fr) (cs : List Fr) (k : Ret2 RW → Option R) : Option R := match av, cs with
  | [y0], [] => (dA y0).bind fun c0_ => (dRecv c0_).bind fun p0 => G46 cp n p0 (fun r0 => k ⟨(tL r0), [], []⟩)
  | _, _ => none
def ca42 (cp : CP) (n : Nat) (av : Fr) (cs : List Fr) (k : Ret2 RW → Option R) : Option R := match av, cs with
  | [y0], [] => (dA y0).bind fun c0_ => (dRecv c0_).bind fun p0 => G42 cp n p0 (fun r0 => k ⟨(tL r0), [], []⟩)
  | _, _ => none
def ca47 (cp : CP) (n : Nat) (av : Fr) (cs : List Fr) (k : Ret2 RW → Option R) : Option R := match av, cs with
  | [y0], [] => (dRPiece false y0).bind fun p0 => G47 cp n p0 (fun r0 => k ⟨.row false (.rSpan r0), [], []⟩)
  | _, _ => none
def ca48 (cp : CP) (n : Nat) (av : Fr) (cs : List Fr) (k : Ret2 RW → Option R) : Option R := match av, cs with
  | [y0, y1], [] => (dA y0).bind fun c0_ => (dSpan c0_).bind fun p0 => (dRSpan false y1).bind fun p1 => G48 cp n p0 p1 (fun r0 => k ⟨(tB r0), [], []⟩)
  | _, _ => none
def ca16 (cp : CP) (n : Nat) (av : Fr) (cs : List Fr) (k : Ret2 RW → Option R) : Option R := match av, cs with
  | [y0], [] => (dA y0).bind fun c0_ => (dRecv c0_).bind fun p0 => G16 cp n p0 (fun r0 => k ⟨(tL r0), [], []⟩)
  | _, _ => none
def ca37 (cp : CP) (n : Nat) (av : Fr) (cs : List Fr) (k : Ret2 RW → Option R) : Option R := match av, cs with
  | [y0], [] => (dA y0).bind fun c0_ => (dRecv c0_).bind fun p0 => G37 cp n p0 (fun r0 => k ⟨.agg (eRecv r0), [], []⟩)
  | _, _ => none
def ca50 (cp : CP) (n : Nat) (av : Fr) (cs : List Fr) (k : Ret2 RW → Option R) : Option R := match av, cs with
  | [y0], [] => (dA y0).bind fun c0_ => (dRecv c0_).bind fun p0 => G50 cp n p0 (fun r0 => k ⟨(tL r0), [], []⟩)
  | _, _ => none
def ca65 (cp : CP) (n : Nat) (av : Fr) (cs : List Fr) (k : Ret2 RW → Option R) : Option R := match av, cs with
  | [y0], [] => (dI .i64 y0).bind fun p0 => G65 cp n p0 (fun r0 => k ⟨(tL r0), [], []⟩)
  | _, _ => none
def ca39 (cp : CP) (n : Nat) (av : Fr) (cs : List Fr) (k : Ret2 RW → Option R) : Option R := match av, cs with
  | [y0, y1], [] => (dI .u32 y0).bind fun p0 => (dI .i64 y1).bind fun p1 => G39 cp n p0 p1 (fun r0 => k ⟨(tI .u32 r0), [], []⟩)
  | _, _ => none
def ca41 (cp : CP) (n : Nat) (av : Fr) (cs : List Fr) (k : Ret2 RW → Option R) : Option R := match av, cs with
  | [y0, y1], [] => (dA y0).bind fun c0_ => (dRecv c0_).bind fun p0 => (dRBlock true y1).bind fun p1 => G41 cp n p0 p1 (fun r0 r1 => k ⟨.tup [.agg (eRecv r0), .agg (eSegment r1)], [], []⟩)
  | _, _ => none
def ca24 (cp : CP) (n : Nat) (av : Fr) (cs : List Fr) (k : Ret2 RW → Option R) : Option R := match av, cs with
  | [y0, y1], [] => (dA y0).bind fun c0_ => (dRecv c0_).bind fun p0 => (dI .i64 y1).bind fun p1 => G24 cp n p0 p1 (fun r0 r1 r2 r3 r4 => k ⟨.tup [.agg (eRecv r0), .row false (.ruint8 r1), .agg (eSegment r2), (tB r3), (tL r4)], [], []⟩)
  | _, _ => none
def ca23 (cp : CP) (n : Nat) (av : Fr) (cs : List Fr) (k : Ret2 RW → Option R) : Option R := match av, cs with
  | [y0], [] => (dA y0).bind fun c0_ => (dRecv c0_).bind fun p0 => G23 cp n p0 (fun r0 r1 => k ⟨.tup [.agg (eRecv r0), .agg (eSegment r1)], [], []⟩)
  | _, _ => none
def ca25 (cp : CP) (n : Nat) (av : Fr) (cs : List Fr) (k : Ret2 RW → Option R) : Option R := match av, cs with
  | [y0], [] => (dA y0).bind fun c0_ => (dRecv c0_).bind fun p0 => G25 cp n p0 (fun r0 r1 => k ⟨.tup [.agg (eRecv r0), .agg (eSegment r1)], [], []⟩)
  | _, _ => none
def ca21 (cp : CP) (n : Nat) (av : Fr) (cs : List Fr) (k : Ret2 RW → Option R) : Option R := match av, cs with
  | [y0, y1], [] => (dRuint8 false y0).bind fun p0 => (dRuint8 false y1).bind fun p1 => G21 cp n p0 p1 (fun r0 => k ⟨(tB r0), [], []⟩)
  | _, _ => none
def ca14 (cp : CP) (n : Nat) (av : Fr) (cs : List Fr) (k : Ret2 RW → Option R) : Option R := match av, cs with
  | [y0, y1], [] => (dA y0).bind fun c0_ => (dRecv c0_).bind fun p0 => (dA y1).bind fun c1_ => (dRecv c1_).bind fun p1 => G14 cp n p0 p1 (fun r0 => k ⟨(tB r0), [], []⟩)
  | _, _ => none
def ca45 (cp : CP) (n : Nat) (av : Fr) (cs : List Fr) (k : Ret2 RW → Option R) : Option R := match av, cs with
  | [y0, y1], [] => (dA y0).bind fun c0_ => (dSegment c0_).bind fun p0 => (dA y1).bind fun c1_ => (dSegment c1_).bind fun p1 => G45 cp n p0 p1 (fun r0 => k ⟨(tB r0), [], []⟩)
  | _, _ => none
def ca15 (cp : CP) (n : Nat) (av : Fr) (cs : List Fr) (k : Ret2 RW → Option R) : Option R := match av, cs with
  | [y0, y1], [] => (dA y0).bind fun c0_ => (dSegment c0_).bind fun p0 => (dA y1).bind fun c1_ => (dSegment c1_).bind fun p1 => G15 cp n p0 p1 (fun r0 => k ⟨(tB r0), [], []⟩)
  | _, _ => none
def ca22 (cp : CP) (n : Nat) (av : Fr) (cs : List Fr) (k : Ret2 RW → Option R) : Option R := match av, cs with
  | [y0], [] => (dA y0).bind fun c0_ => (dRecv c0_).bind fun p0 => G22 cp n p0 (fun r0 => k ⟨(tL r0), [], []⟩)
  | _, _ => none
def ca26 (cp : CP) (n : Nat) (av : Fr) (cs : List Fr) (k : Ret2 RW → Option R) : Option R := match av, cs with
  | [y0], [] => (dA y0).bind fun c0_ => (dRecv c0_).bind fun p0 => G26 cp n p0 (fun r0 => k ⟨(tL r0), [], []⟩)
  | _, _ => none
def ca17 (cp : CP) (n : Nat) (av : Fr) (cs : List Fr) (k : Ret2 RW → Option R) : Option R := match av, cs with
  | [y0, y1, y2, y3, y4, y5], [] => (dI .i64 y0).bind fun p0 => (dI .i64 y1).bind fun p1 => (dI .u32 y2).bind fun p2 => (dI .u32 y3).bind fun p3 => (dB y4).bind fun p4 => (dB y5).bind fun p5 => G17 cp n p0 p1 p2 p3 p4 p5 (fun r0 r1 => k ⟨.tup [.agg (eRecv r0), (tL r1)], [], []⟩)
  | _, _ => none
def ca31 (cp : CP) (n : Nat) (av : Fr) (cs : List Fr) (k : Ret2 RW → Option R) : Option R := match av, cs with
  | [y0, y1], [] => (dI .u32 y0).bind fun p0 => (dI .u32 y1).bind fun p1 => G31 cp n p0 p1 (fun r0 => k ⟨(tL r0), [], []⟩)
  | _, _ => none
def ca58 (cp : CP) (n : Nat) (av : Fr) (cs : List Fr) (k : Ret2 RW → Option R) : Option R := match av, cs with
  | [y0, y1], [] => (dI .i64 y0).bind fun p0 => (dI .i64 y1).bind fun p1 => G58 cp n p0 p1 (fun r0 => k ⟨(tL r0), [], []⟩)
  | _, _ => none
def ca30 (cp : CP) (n : Nat) (av : Fr) (cs : List Fr) (k : Ret2 RW → Option R) : Option R := match av, cs with
  | [y0, y1], [] => (dI .i64 y0).bind fun p0 => (dI .u32 y1).bind fun p1 => G30 cp n p0 p1 (fun r0 => k ⟨(tL r0), [], []⟩)
  | _, _ => none
def ca33 (cp : CP) (n : Nat) (av : Fr) (cs : List Fr) (k : Ret2 RW → Option R) : Option R := match av, cs with
  | [y0, y1], [] => (dA y0).bind fun c0_ => (dRecv c0_).bind fun p0 => (dI .i64 y1).bind fun p1 => G33 cp n p0 p1 (fun r0 => k ⟨(tL r0), [], []⟩)
  | _, _ => none
def ca82 (cp : CP) (n : Nat) (av : Fr) (cs : List Fr) (k : Ret2 RW → Option R) : Option R := match av, cs with
  | [y0], [] => (dA y0).bind fun c0_ => (dSpan c0_).bind fun p0 => G82 cp n p0 (fun r0 => k ⟨(tB r0), [], []⟩)
  | _, _ => none
def ca78 (cp : CP) (n : Nat) (av : Fr) (cs : List Fr) (k : Ret2 RW → Option R) : Option R := match av, cs with
  | [y0], [] => (dRSpan false y0).bind fun p0 => G78 cp n p0 (fun r0 => k ⟨(tL r0), [], []⟩)
  | _, _ => none
def ca79 (cp : CP) (n : Nat) (av : Fr) (cs : List Fr) (k : Ret2 RW → Option R) : Option R := match av, cs with
  | [y0, y1], [] => (dRSpan false y0).bind fun p0 => (dA y1).bind fun c1_ => (dSpan c1_).bind fun p1 => G79 cp n p0 p1 (fun r0 r1 => k ⟨.clo 83 [(6, 0), (8, 0)], [], [[.row false (.rSpan r0)], (eSpan r1)]⟩)
  | _, _ => none
def ca61 (cp : CP) (n : Nat) (av : Fr) (cs : List Fr) (k : Ret2 RW → Option R) : Option R := match av, cs with
  | [y0, y1], [] => (dRSpan false y0).bind fun p0 => (dA y1).bind fun c1_ => (dSpan c1_).bind fun p1 => G61 cp n p0 p1 (fun r0 => k ⟨.row false (.rSpan r0), [], []⟩)
  | _, _ => none
def ca74 (cp : CP) (n : Nat) (av : Fr) (cs : List Fr) (k : Ret2 RW → Option R) : Option R := match av, cs with
  | [y0, y1], [] => (dA y0).bind fun c0_ => (dPiece c0_).bind fun p0 => (dI .i64 y1).bind fun p1 => G74 cp n p0 p1 (fun r0 => k ⟨(tL r0), [], []⟩)
  | _, _ => none
def ca1052 (cp : CP) (n : Nat) (av : Fr) (cs : List Fr) (k : Ret2 RW → Option R) : Option R := match av, cs with
  | [y0, y1, y2], [] => (dRPiece false y0).bind fun p0 => (dI .i64 y1).bind fun p1 => (dC 74 [] y2).bind fun _ => G1052 cp n p0 p1 (fun r0 r1 => k ⟨.tup [(tL r0), (tB r1)], [], []⟩)
  | _, _ => none
def ca1054 (cp : CP) (n : Nat) (av : Fr) (cs : List Fr) (k : Ret2 RW → Option R) : Option R := match av, cs with
  | [y0], [] => (dRPiece false y0).bind fun p0 => G1054 cp n p0 (fun r0 => k ⟨.un none (.rPiece r0), [], []⟩)
  | _, _ => none
def ca75 (cp : CP) (n : Nat) (av : Fr) (cs : List Fr) (k : Ret2 RW → Option R) : Option R := match av, cs with
  | [y0, y1, y2], [] => (dUPiece y0).bind fun p0 => (dI .i64 y1).bind fun p1 => (dXPiece y2).bind fun p2 => G75 cp n p0 p1 p2 (fun r0 => k ⟨.un none (.rPiece r0), [], []⟩)
  | _, _ => none
def ca77 (cp : CP) (n : Nat) (av : Fr) (cs : List Fr) (k : Ret2 RW → Option R) : Option R := match av, cs with
  | [y0], [] => (dRuint8 false y0).bind fun p0 => G77 cp n p0 (fun r0 => k ⟨.row true (.ruint8 r0), [], []⟩)
  | _, _ => none
def ca60 (cp : CP) (n : Nat) (av : Fr) (cs : List Fr) (k : Ret2 RW → Option R) : Option R := match av, cs with
  | [y0, y1], [] => (dRPiece false y0).bind fun p0 => (dA y1).bind fun c1_ => (dPiece c1_).bind fun p1 => G60 cp n p0 p1 (fun r0 => k ⟨.row true (.rPiece r0), [], []⟩)
  | _, _ => none
def ca1050 (cp : CP) (n : Nat) (av : Fr) (cs : List Fr) (k : Ret2 RW → Option R) : Option R := match av, cs with
  | [y0, y1, y2, y3, y4], [w0, w1, w2, w3] => (dA y0).bind fun c0_ => (dSpan c0_).bind fun p0 => (dP 43 0 y1).bind fun _ => (dP 23 0 y2).bind fun _ => (dP 41 0 y3).bind fun _ => (dP 39 0 y4).bind fun _ => (dRecvt w0).bind fun q0 => (dOne w1).bind fun u1 => (dI .i64 u1).bind fun q1 => (dOne w2).bind fun u2 => (dRuint8 false u2).bind fun q2 => (dOne w3).bind fun u3 => (dB u3).bind fun q3 => G1050 cp n p0 q0 q1 q2 q3 (fun r0 r1 r2 r3 => k ⟨.tup [], [(eRecvt r0), [(tL r1)], [.row false (.ruint8 r2)], [(tB r3)]], []⟩)
  | _, _ => none
def ca34 (cp : CP) (n : Nat) (av : Fr) (cs : List Fr) (k : Ret2 RW → Option R) : Option R := match av, cs with
  | [y0, y1, y2], [] => (dA y0).bind fun c0_ => (dRecvt c0_).bind fun p0 => (dI .i64 y1).bind fun p1 => (dRuint8 false y2).bind fun p2 => G34 cp n p0 p1 p2 (fun r0 r1 => k ⟨.tup [.agg [(tL r0.xNext), .row true (.ruint8 r0.xUnread), .row false (.rPiece r0.xLate), (tL r0.xCap), (tL r0.xShift), (tL r0.xEdge), (tI .u32 r0.xRecent), (tB r0.xStamps), (tB r0.xSacks), (tL r0.xFin), (tB r0.xDone), .row true (.rSpan r0.xFirst), (tI .u32 r0.xIrs), (tI .u32 r0.xOwn), (tB r0.xStamp)], (tB r1)], [], []⟩)
  | _, _ => none
def ca1059 (cp : CP) (n : Nat) (av : Fr) (cs : List Fr) (k : Ret2 RW → Option R) : Option R := match av, cs with
  | [y0, y1], [w0] => (dA y0).bind fun c0_ => (dSpan c0_).bind fun p0 => (dP 16 0 y1).bind fun _ => (dSpan w0).bind fun q0 => G1059 cp n p0 q0 (fun r0 r1 => k ⟨(tB r0), [(eSpan r1)], []⟩)
  | _, _ => none
def ca1058 (cp : CP) (n : Nat) (av : Fr) (cs : List Fr) (k : Ret2 RW → Option R) : Option R := match av, cs with
  | [y0, y1], [w0] => (dRSpan false y0).bind fun p0 => (dC 63 [(19, 0)] y1).bind fun _ => (dSpan w0).bind fun q0 => G1058 cp n p0 q0 (fun r0 r1 => k ⟨(tL r0), [(eSpan r1)], []⟩)
  | _, _ => none
def ca35 (cp : CP) (n : Nat) (av : Fr) (cs : List Fr) (k : Ret2 RW → Option R) : Option R := match av, cs with
  | [y0, y1, y2], [] => (dA y0).bind fun c0_ => (dRecv c0_).bind fun p0 => (dI .i64 y1).bind fun p1 => (dRuint8 false y2).bind fun p2 => G35 cp n p0 p1 p2 (fun r0 => k ⟨.row true (.rSpan r0), [], []⟩)
  | _, _ => none
def ca12 (cp : CP) (n : Nat) (av : Fr) (cs : List Fr) (k : Ret2 RW → Option R) : Option R := match av, cs with
  | [y0, y1], [] => (dA y0).bind fun c0_ => (dRecv c0_).bind fun p0 => (dA y1).bind fun c1_ => (dSegment c1_).bind fun p1 => G12 cp n p0 p1 (fun r0 r1 r2 r3 => k ⟨.tup [.agg (eRecv r0), .agg (eSegment r1), (tB r2), (tL r3)], [], []⟩)
  | _, _ => none
def ca11 (cp : CP) (n : Nat) (av : Fr) (cs : List Fr) (k : Ret2 RW → Option R) : Option R := match av, cs with
  | [], [] => G11 cp n (fun r0 => k ⟨(tB r0), [], []⟩)
  | _, _ => none
def ca9 (cp : CP) (n : Nat) (av : Fr) (cs : List Fr) (k : Ret2 RW → Option R) : Option R := match av, cs with
  | [y0, y1], [] => (dA y0).bind fun c0_ => (dRecv c0_).bind fun p0 => (dI .i64 y1).bind fun p1 => G9 cp n p0 p1 (fun r0 => k ⟨(tB r0), [], []⟩)
  | _, _ => none
def callP (cp : CP) (n : Nat) (id : Nat) (av : Fr) (cs : List Fr) (k : Ret2 RW → Option R) : Option R := match id with
  | 27 => ca27 cp n av cs k
  | 53 => ca53 cp n av cs k
  | 55 => ca55 cp n av cs k
  | 71 => ca71 cp n av cs k
  | 1008 => ca1008 cp n av cs k
  | 1007 => ca1007 cp n av cs k
  | 72 => ca72 cp n av cs k
  | 56 => ca56 cp n av cs k
  | 28 => ca28 cp n av cs k
  | 10 => ca10 cp n av cs k
  | 57 => ca57 cp n av cs k
  | 52 => ca52 cp n av cs k
  | 29 => ca29 cp n av cs k
  | 51 => ca51 cp n av cs k
  | 49 => ca49 cp n av cs k
  | 36 => ca36 cp n av cs k
  | 32 => ca32 cp n av cs k
  | 20 => ca20 cp n av cs k
  | 46 => ca46 cp n av cs k
  | 42 => ca42 cp n av cs k
  | 47 => ca47 cp n av cs k
  | 48 => ca48 cp n av cs k
  | 16 => ca16 cp n av cs k
  | 37 => ca37 cp n av cs k
  | 50 => ca50 cp n av cs k
  | 65 => ca65 cp n av cs k
  | 39 => ca39 cp n av cs k
  | 41 => ca41 cp n av cs k
  | 24 => ca24 cp n av cs k
  | 23 => ca23 cp n av cs k
  | 25 => ca25 cp n av cs k
  | 21 => ca21 cp n av cs k
  | 14 => ca14 cp n av cs k
  | 45 => ca45 cp n av cs k
  | 15 => ca15 cp n av cs k
  | 22 => ca22 cp n av cs k
  | 26 => ca26 cp n av cs k
  | 17 => ca17 cp n av cs k
  | 31 => ca31 cp n av cs k
  | 58 => ca58 cp n av cs k
  | 30 => ca30 cp n av cs k
  | 33 => ca33 cp n av cs k
  | 82 => ca82 cp n av cs k
  | 78 => ca78 cp n av cs k
  | 79 => ca79 cp n av cs k
  | 61 => ca61 cp n av cs k
  | 74 => ca74 cp n av cs k
  | 1052 => ca1052 cp n av cs k
  | 1054 => ca1054 cp n av cs k
  | 75 => ca75 cp n av cs k
  | 77 => ca77 cp n av cs k
  | 60 => ca60 cp n av cs k
  | 1050 => ca1050 cp n av cs k
  | 34 => ca34 cp n av cs k
  | 1059 => ca1059 cp n av cs k
  | 1058 => ca1058 cp n av cs k
  | 35 => ca35 cp n av cs k
  | 12 => ca12 cp n av cs k
  | 11 => ca11 cp n av cs k
  | 9 => ca9 cp n av cs k
  | _ => none
end
end Go.Proofs.Ytilmdmjhdidoiaa.M
