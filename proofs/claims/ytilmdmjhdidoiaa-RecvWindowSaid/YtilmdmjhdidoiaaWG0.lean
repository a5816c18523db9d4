/- The values of the program's functions, and the functions, plain. -/
import Derived.Test.YtilmdmjhdidoiaaMachX
set_option maxRecDepth 100000
set_option linter.unusedVariables false
namespace Go.Proofs.Ytilmdmjhdidoiaa.M
open Go
noncomputable section
abbrev CP := Nat → Nat → Bool
variable {R : Type}
def str_ : ByteArray := ⟨#[]⟩
def str_abcd : ByteArray := ⟨#[97, 98, 99, 100]⟩
def str_abc : ByteArray := ⟨#[97, 98, 99]⟩
def str_d : ByteArray := ⟨#[100]⟩
def zuint8 : Int := 0
structure SPiece where
  xFrom : Int
  xData : (List Int)
def zPiece : SPiece := ⟨0, []⟩
structure SSpan where
  xFrom : Int
  xTo : Int
def zSpan : SSpan := ⟨0, 0⟩
structure SRecv where
  xNext : Int
  xUnread : (List Int)
  xLate : (List SPiece)
  xCap : Int
  xShift : Int
  xEdge : Int
  xRecent : Int
  xStamps : Bool
  xSacks : Bool
  xFin : Int
  xDone : Bool
  xFirst : (List SSpan)
  xIrs : Int
  xOwn : Int
  xStamp : Bool
def zRecv : SRecv := ⟨0, [], [], 0, 0, 0, 0, false, false, 0, false, [], 0, 0, false⟩
structure SBlock where
  xFrom : Int
  xTo : Int
def zBlock : SBlock := ⟨0, 0⟩
structure SSegment where
  xSrcPort : Int
  xDstPort : Int
  xSeq : Int
  xAck : Int
  xFlags : Int
  xWin : Int
  xUrg : Int
  xMss : Int
  xScale : Int
  xSackOk : Bool
  xStamped : Bool
  xVal : Int
  xEcr : Int
  xSacks : (List SBlock)
  xData : (List Int)
def zSegment : SSegment := ⟨0, 0, 0, 0, 0, 0, 0, 0, 0, false, false, 0, 0, [], []⟩
inductive RW where
  | ruint8 (xs : List Int)
  | rPiece (xs : List SPiece)
  | rSpan (xs : List SSpan)
  | rBlock (xs : List SBlock)

abbrev Fr := List (TV RW)
abbrev FF := FT RW
def tI (k : IntKind) (n : Int) : TV RW := .sc (.int k n)
def tL (n : Int) : TV RW := .sc (.int .i64 n)
def tB (b : Bool) : TV RW := .sc (.bool b)
def dT : Nat → Fr → Fr
  | 0, l => l
  | n + 1, l => .dead :: dT n l
def dc : Fr := dT 16 []
def eRecv (x : SRecv) : List (TV RW) := [(tL x.xNext), .row false (.ruint8 x.xUnread), .row false (.rPiece x.xLate), (tL x.xCap), (tL x.xShift), (tL x.xEdge), (tI .u32 x.xRecent), (tB x.xStamps), (tB x.xSacks), (tL x.xFin), (tB x.xDone), .row false (.rSpan x.xFirst), (tI .u32 x.xIrs), (tI .u32 x.xOwn), (tB x.xStamp)]
def eRecvt (x : SRecv) : List (TV RW) := [(tL x.xNext), .row true (.ruint8 x.xUnread), .row true (.rPiece x.xLate), (tL x.xCap), (tL x.xShift), (tL x.xEdge), (tI .u32 x.xRecent), (tB x.xStamps), (tB x.xSacks), (tL x.xFin), (tB x.xDone), .row true (.rSpan x.xFirst), (tI .u32 x.xIrs), (tI .u32 x.xOwn), (tB x.xStamp)]
def ePiece (x : SPiece) : List (TV RW) := [(tL x.xFrom), .row false (.ruint8 x.xData)]
def ePiecet (x : SPiece) : List (TV RW) := [(tL x.xFrom), .row true (.ruint8 x.xData)]
def eSpan (x : SSpan) : List (TV RW) := [(tL x.xFrom), (tL x.xTo)]
def eBlock (x : SBlock) : List (TV RW) := [(tI .u32 x.xFrom), (tI .u32 x.xTo)]
def eSegment (x : SSegment) : List (TV RW) := [(tL x.xSrcPort), (tL x.xDstPort), (tI .u32 x.xSeq), (tI .u32 x.xAck), (tL x.xFlags), (tL x.xWin), (tL x.xUrg), (tL x.xMss), (tL x.xScale), (tB x.xSackOk), (tB x.xStamped), (tI .u32 x.xVal), (tI .u32 x.xEcr), .row false (.rBlock x.xSacks), .row false (.ruint8 x.xData)]
def eSegmentt (x : SSegment) : List (TV RW) := [(tL x.xSrcPort), (tL x.xDstPort), (tI .u32 x.xSeq), (tI .u32 x.xAck), (tL x.xFlags), (tL x.xWin), (tL x.xUrg), (tL x.xMss), (tL x.xScale), (tB x.xSackOk), (tB x.xStamped), (tI .u32 x.xVal), (tI .u32 x.xEcr), .row true (.rBlock x.xSacks), .row true (.ruint8 x.xData)]
def euint8 (x : Int) : List (TV RW) := [(tI .u8 x)]
def cuint8 (x : Int) : List AV := [.sc (.int .u8 x)]
def cPiece (x : SPiece) : List AV := [.sc (.int .i64 x.xFrom), .row false 1 x.xData.length (rg cuint8 zuint8 x.xData)]
def cSpan (x : SSpan) : List AV := [.sc (.int .i64 x.xFrom), .sc (.int .i64 x.xTo)]
def cBlock (x : SBlock) : List AV := [.sc (.int .u32 x.xFrom), .sc (.int .u32 x.xTo)]
def dOne : Fr → Option (TV RW)
  | [x] => some x
  | _ => none
def dI (kd : IntKind) : TV RW → Option Int
  | .sc (.int k a) => cond (decide (k = kd)) (some a) none
  | _ => none
def dB : TV RW → Option Bool
  | .sc (.bool b) => some b
  | _ => none
def dS : TV RW → Option ByteArray
  | .sc (.string b) => some b
  | _ => none
def dA : TV RW → Option Fr
  | .agg cs => some cs
  | _ => none
def dP (h j : Nat) : TV RW → Option Unit
  | .ptr a b => cond (Nat.beq a h && Nat.beq b j) (some ()) none
  | _ => none
def dC (f : Nat) (cs : List (Nat × Nat)) : TV RW → Option Unit
  | .clo a b => cond (Nat.beq a f && decide (b = cs)) (some ()) none
  | _ => none
def dUPiece : TV RW → Option (List SPiece)
  | .un none (.rPiece xs) => some xs
  | _ => none
def dXPiece : TV RW → Option SPiece
  | .row _ (.rPiece [x]) => some x
  | _ => none
def dRuint8 (fl : Bool) : TV RW → Option (List Int)
  | .row a (.ruint8 xs) => cond (a == fl) (some xs) none
  | _ => none
def dRPiece (fl : Bool) : TV RW → Option (List SPiece)
  | .row a (.rPiece xs) => cond (a == fl) (some xs) none
  | _ => none
def dRSpan (fl : Bool) : TV RW → Option (List SSpan)
  | .row a (.rSpan xs) => cond (a == fl) (some xs) none
  | _ => none
def dRBlock (fl : Bool) : TV RW → Option (List SBlock)
  | .row a (.rBlock xs) => cond (a == fl) (some xs) none
  | _ => none
def dRecv : Fr → Option SRecv
  | [y0, y1, y2, y3, y4, y5, y6, y7, y8, y9, y10, y11, y12, y13, y14] => (dI .i64 y0).bind fun a0 => (dRuint8 false y1).bind fun a1 => (dRPiece false y2).bind fun a2 => (dI .i64 y3).bind fun a3 => (dI .i64 y4).bind fun a4 => (dI .i64 y5).bind fun a5 => (dI .u32 y6).bind fun a6 => (dB y7).bind fun a7 => (dB y8).bind fun a8 => (dI .i64 y9).bind fun a9 => (dB y10).bind fun a10 => (dRSpan false y11).bind fun a11 => (dI .u32 y12).bind fun a12 => (dI .u32 y13).bind fun a13 => (dB y14).bind fun a14 => some ⟨a0, a1, a2, a3, a4, a5, a6, a7, a8, a9, a10, a11, a12, a13, a14⟩
  | _ => none
def dRecvt : Fr → Option SRecv
  | [y0, y1, y2, y3, y4, y5, y6, y7, y8, y9, y10, y11, y12, y13, y14] => (dI .i64 y0).bind fun a0 => (dRuint8 true y1).bind fun a1 => (dRPiece true y2).bind fun a2 => (dI .i64 y3).bind fun a3 => (dI .i64 y4).bind fun a4 => (dI .i64 y5).bind fun a5 => (dI .u32 y6).bind fun a6 => (dB y7).bind fun a7 => (dB y8).bind fun a8 => (dI .i64 y9).bind fun a9 => (dB y10).bind fun a10 => (dRSpan true y11).bind fun a11 => (dI .u32 y12).bind fun a12 => (dI .u32 y13).bind fun a13 => (dB y14).bind fun a14 => some ⟨a0, a1, a2, a3, a4, a5, a6, a7, a8, a9, a10, a11, a12, a13, a14⟩
  | _ => none
def dPiece : Fr → Option SPiece
  | [y0, y1] => (dI .i64 y0).bind fun a0 => (dRuint8 false y1).bind fun a1 => some ⟨a0, a1⟩
  | _ => none
def dPiecet : Fr → Option SPiece
  | [y0, y1] => (dI .i64 y0).bind fun a0 => (dRuint8 true y1).bind fun a1 => some ⟨a0, a1⟩
  | _ => none
def dSpan : Fr → Option SSpan
  | [y0, y1] => (dI .i64 y0).bind fun a0 => (dI .i64 y1).bind fun a1 => some ⟨a0, a1⟩
  | _ => none
def dBlock : Fr → Option SBlock
  | [y0, y1] => (dI .u32 y0).bind fun a0 => (dI .u32 y1).bind fun a1 => some ⟨a0, a1⟩
  | _ => none
def dSegment : Fr → Option SSegment
  | [y0, y1, y2, y3, y4, y5, y6, y7, y8, y9, y10, y11, y12, y13, y14] => (dI .i64 y0).bind fun a0 => (dI .i64 y1).bind fun a1 => (dI .u32 y2).bind fun a2 => (dI .u32 y3).bind fun a3 => (dI .i64 y4).bind fun a4 => (dI .i64 y5).bind fun a5 => (dI .i64 y6).bind fun a6 => (dI .i64 y7).bind fun a7 => (dI .i64 y8).bind fun a8 => (dB y9).bind fun a9 => (dB y10).bind fun a10 => (dI .u32 y11).bind fun a11 => (dI .u32 y12).bind fun a12 => (dRBlock false y13).bind fun a13 => (dRuint8 false y14).bind fun a14 => some ⟨a0, a1, a2, a3, a4, a5, a6, a7, a8, a9, a10, a11, a12, a13, a14⟩
  | _ => none
def dSegmentt : Fr → Option SSegment
  | [y0, y1, y2, y3, y4, y5, y6, y7, y8, y9, y10, y11, y12, y13, y14] => (dI .i64 y0).bind fun a0 => (dI .i64 y1).bind fun a1 => (dI .u32 y2).bind fun a2 => (dI .u32 y3).bind fun a3 => (dI .i64 y4).bind fun a4 => (dI .i64 y5).bind fun a5 => (dI .i64 y6).bind fun a6 => (dI .i64 y7).bind fun a7 => (dI .i64 y8).bind fun a8 => (dB y9).bind fun a9 => (dB y10).bind fun a10 => (dI .u32 y11).bind fun a11 => (dI .u32 y12).bind fun a12 => (dRBlock true y13).bind fun a13 => (dRuint8 true y14).bind fun a14 => some ⟨a0, a1, a2, a3, a4, a5, a6, a7, a8, a9, a10, a11, a12, a13, a14⟩
  | _ => none
def puint8_ : Fr → Option (List Int)
  | [] => some []
  | y0 :: r => (dI .u8 y0).bind fun a0 => (puint8_ r).bind fun xs => some (a0 :: xs)

def pPiece_ : Fr → Option (List SPiece)
  | [] => some []
  | y0 :: y1 :: r => (dI .i64 y0).bind fun a0 => (dRuint8 false y1).bind fun a1 => (pPiece_ r).bind fun xs => some (⟨a0, a1⟩ :: xs)
  | _ => none

def pSpan_ : Fr → Option (List SSpan)
  | [] => some []
  | y0 :: y1 :: r => (dI .i64 y0).bind fun a0 => (dI .i64 y1).bind fun a1 => (pSpan_ r).bind fun xs => some (⟨a0, a1⟩ :: xs)
  | _ => none

def pBlock_ : Fr → Option (List SBlock)
  | [] => some []
  | y0 :: y1 :: r => (dI .u32 y0).bind fun a0 => (dI .u32 y1).bind fun a1 => (pBlock_ r).bind fun xs => some (⟨a0, a1⟩ :: xs)
  | _ => none

def U : Uni RW where
  sz := fun r => match r with
    | .ruint8 xs => 1
    | .rPiece xs => 2
    | .rSpan xs => 2
    | .rBlock xs => 2
  len := fun r => match r with
    | .ruint8 xs => xs.length
    | .rPiece xs => xs.length
    | .rSpan xs => xs.length
    | .rBlock xs => xs.length
  getA := fun r => match r with
    | .ruint8 xs => rg cuint8 zuint8 xs
    | .rPiece xs => rg cPiece zPiece xs
    | .rSpan xs => rg cSpan zSpan xs
    | .rBlock xs => rg cBlock zBlock xs
  get := fun r i => match r with
    | .ruint8 xs => euint8 (xs.getD i zuint8)
    | .rPiece xs => ePiece (xs.getD i zPiece)
    | .rSpan xs => eSpan (xs.getD i zSpan)
    | .rBlock xs => eBlock (xs.getD i zBlock)
  app := fun r q => match r with
    | .ruint8 xs => (match q with
      | .ruint8 ys => some (.ruint8 (xs ++ ys))
      | _ => none)
    | .rPiece xs => (match q with
      | .rPiece ys => some (.rPiece (xs ++ ys))
      | _ => none)
    | .rSpan xs => (match q with
      | .rSpan ys => some (.rSpan (xs ++ ys))
      | _ => none)
    | .rBlock xs => (match q with
      | .rBlock ys => some (.rBlock (xs ++ ys))
      | _ => none)
  sub := fun lo n r => match r with
    | .ruint8 xs => .ruint8 (List.take n (xs.drop lo))
    | .rPiece xs => .rPiece (List.take n (xs.drop lo))
    | .rSpan xs => .rSpan (List.take n (xs.drop lo))
    | .rBlock xs => .rBlock (List.take n (xs.drop lo))
  szt := fun t => match t with
    | 5 => 1
    | 74 => 2
    | 78 => 2
    | 62 => 2
    | _ => 0
  zt := fun t => match t with
    | 5 => euint8 zuint8
    | 74 => ePiece zPiece
    | 78 => eSpan zSpan
    | 62 => eBlock zBlock
    | _ => []
  lit := fun t n L => match t with
    | 5 => (puint8_ L).bind fun xs => cond (Nat.beq xs.length n) (some (.ruint8 xs)) none
    | 74 => (pPiece_ L).bind fun xs => cond (Nat.beq xs.length n) (some (.rPiece xs)) none
    | 78 => (pSpan_ L).bind fun xs => cond (Nat.beq xs.length n) (some (.rSpan xs)) none
    | 62 => (pBlock_ L).bind fun xs => cond (Nat.beq xs.length n) (some (.rBlock xs)) none
    | _ => none
  set := fun r q off cs => match r with
    | .ruint8 xs => none
    | .rPiece xs => (dPiece (splice2 (ePiece (xs.getD q zPiece)) off cs)).bind fun x => some (.rPiece (xs.set q x))
    | .rSpan xs => (dSpan (splice2 (eSpan (xs.getD q zSpan)) off cs)).bind fun x => some (.rSpan (xs.set q x))
    | .rBlock xs => (dBlock (splice2 (eBlock (xs.getD q zBlock)) off cs)).bind fun x => some (.rBlock (xs.set q x))
  str := fun r => match r with
    | .ruint8 xs => some xs
    | .rPiece xs => none
    | .rSpan xs => none
    | .rBlock xs => none
/-! tideway/recv.reach -/
def G27 (cp : CP) : Nat → SRecv → (Int → Option R) → Option R
  | 0, _, _ => none
  | n + 1, p0, k =>
    k (wr .i64 ((wr .i64 (p0.xNext - (p0.xUnread.length : Int))) + p0.xCap))
/-! tideway/recv.limit -/
def G53 (cp : CP) : Nat → SRecv → (Int → Option R) → Option R
  | 0, _, _ => none
  | n + 1, p0, k =>
    G27 cp n p0 (fun r3 => k (mn r3 562949953421312))
/-! tideway/recv.late -/
def G55 (cp : CP) : Nat → SRecv → (SRecv → Option R) → Option R
  | 0, _, _ => none
  | n + 1, p0, k =>
    k p0
/-! tideway/recv.of -/
def G71 (cp : CP) : Nat → SPiece → (SSpan → Option R) → Option R
  | 0, _, _ => none
  | n + 1, p0, k =>
    k (SSpan.mk p0.xFrom (wr .i64 (p0.xFrom + (p0.xData.length : Int))))
/-! slices.AppendSeq[[]tideway/api.Span,tideway/api.Span] -/
def s1007_1 (cp : CP) (n : Nat) (p0 : (List SSpan)) (q0 : SRecv) (kn : Option R) : Option R :=
  kn
def s1007_3 (cp : CP) (n : Nat) (p0 : (List SSpan)) (q0 : SRecv) (kn : Option R) : Option R :=
  kn
def s1007_7 (cp : CP) (n : Nat) (p0 : (List SSpan)) (q0 : SRecv) (kn : Int → Option R) : Option R :=
  kn (q0.xLate.length : Int)
def s1007_9 (cp : CP) (n : Nat) (q0 : SRecv) (v9 v10 : Int) (v11 : (List SSpan)) (kn : Option R) (ke0 : Option R) : Option R :=
  cond (decide (v10 < v9)) (kn) (ke0)
def s1007_12 (cp : CP) (n : Nat) (q0 : SRecv) (v9 v10 : Int) (v11 : (List SSpan)) (kn : Int → (List Int) → Option R) : Option R :=
  cond (decide (0 ≤ v10)) (cond (decide (v10 < (q0.xLate.length : Int))) (kn ((q0.xLate.getD (Int.toNat v10) zPiece).xFrom) ((q0.xLate.getD (Int.toNat v10) zPiece).xData)) (none)) (none)
def s1007_14 (cp : CP) (n : Nat) (q0 : SRecv) (v9 v10 : Int) (v11 : (List SSpan)) (v12 : Int) (v13 : (List Int)) (ka : Int → Int → Option R) : Option R :=
  G71 cp n (SPiece.mk v12 v13) (fun r14 => ka r14.xFrom r14.xTo)
def s1007_16 (cp : CP) (n : Nat) (q0 : SRecv) (v11 : (List SSpan)) (v12 : Int) (v13 : (List Int)) (v15 v16 : Int) (kn : (List SSpan) → Option R) : Option R :=
  cond (cp (v11.length + [(SSpan.mk v15 v16)].length) 16) (kn (v11 ++ [(SSpan.mk v15 v16)])) (none)
def s1007_22 (cp : CP) (n : Nat) (q0 : SRecv) (v9 v10 : Int) (v11 : (List SSpan)) (v12 : Int) (v13 : (List Int)) (kn : (List SSpan) → Option R) : Option R :=
  s1007_14 cp n q0 v9 v10 v11 v12 v13 (fun v15 v16 => s1007_16 cp n q0 v11 v12 v13 v15 v16 (fun v17 => kn v17))
def s1007_23 (cp : CP) (n : Nat) (q0 : SRecv) (v9 v10 : Int) (v18 : (List SSpan)) (kn : Option R) : Option R :=
  kn
def s1007_26 (cp : CP) (n : Nat) (q0 : SRecv) (v9 v10 : Int) (v11 : (List SSpan)) (v12 : Int) (v13 : (List Int)) (kn : (List SSpan) → Option R) : Option R :=
  s1007_22 cp n q0 v9 v10 v11 v12 v13 (fun v18 => s1007_23 cp n q0 v9 v10 v18 (kn v18))
def s1007_28 (cp : CP) (n : Nat) (q0 : SRecv) (v9 v10 : Int) (v11 : (List SSpan)) (kn : (List SSpan) → Option R) : Option R :=
  s1007_12 cp n q0 v9 v10 v11 (fun v12 v13 => s1007_26 cp n q0 v9 v10 v11 v12 v13 (fun v19 => (kn v19)))
def s1007_30 (cp : CP) (n : Nat) (q0 : SRecv) (v9 v10 : Int) (v11 : (List SSpan)) (kn : (List SSpan) → Option R) : Option R :=
  s1007_28 cp n q0 v9 v10 v11 (fun v20 => (kn v20))
def s1007_31 (cp : CP) (n : Nat) (q0 : SRecv) (v9 v10 : Int) (v21 : (List SSpan)) (kn : Int → Option R) : Option R :=
  kn (wr .i64 (v10 + 1))
def s1007_34 (cp : CP) (n : Nat) (q0 : SRecv) (v9 v10 : Int) (v11 : (List SSpan)) (kn : Int → (List SSpan) → Option R) : Option R :=
  s1007_30 cp n q0 v9 v10 v11 (fun v21 => s1007_31 cp n q0 v9 v10 v21 (fun v22 => (kn v22 v21)))
def s1007_36 (cp : CP) (n : Nat) (q0 : SRecv) (v9 v10 : Int) (v11 : (List SSpan)) (kn : Int → (List SSpan) → Option R) (ke0 : Option R) : Option R :=
  s1007_9 cp n q0 v9 v10 v11 (s1007_34 cp n q0 v9 v10 v11 (fun v23 v24 => (kn v23 v24))) ke0
def l1007_38 (cp : CP) (n : Nat) : Nat → SRecv → Int → Int → (List SSpan) → ((List SSpan) → Option R) → Option R
  | 0, _, _, _, _, _ => none
  | m + 1, q0, v9, v10, v11, ke0 =>
    s1007_36 cp n q0 v9 v10 v11 (fun v25 v26 => l1007_38 cp n m q0 v9 v25 v26 ke0) (ke0 v11)
def s1007_39 (cp : CP) (n : Nat) (p0 : (List SSpan)) (q0 : SRecv) (v9 : Int) (ke0 : (List SSpan) → Option R) : Option R :=
  l1007_38 cp n n q0 v9 0 p0 ke0
def s1007_41 (cp : CP) (n : Nat) (p0 : (List SSpan)) (q0 : SRecv) (v9 : Int) (kn : (List SSpan) → Option R) : Option R :=
  s1007_39 cp n p0 q0 v9 (fun v27 => (kn v27))
def s1007_43 (cp : CP) (n : Nat) (p0 : (List SSpan)) (q0 : SRecv) (kn : (List SSpan) → Option R) : Option R :=
  s1007_7 cp n p0 q0 (fun v9 => s1007_41 cp n p0 q0 v9 (fun v28 => (kn v28)))
def s1007_46 (cp : CP) (n : Nat) (p0 : (List SSpan)) (q0 : SRecv) (kn : (List SSpan) → Option R) : Option R :=
  s1007_43 cp n p0 q0 (fun v29 => (kn v29))
def s1007_48 (cp : CP) (n : Nat) (p0 : (List SSpan)) (q0 : SRecv) (kn : (List SSpan) → Option R) : Option R :=
  s1007_46 cp n p0 q0 (fun v30 => (kn v30))
def s1007_50 (cp : CP) (n : Nat) (p0 : (List SSpan)) (q0 : SRecv) (kn : (List SSpan) → Option R) : Option R :=
  s1007_3 cp n p0 q0 (s1007_48 cp n p0 q0 (fun v31 => (kn v31)))
def s1007_51 (cp : CP) (n : Nat) (q0 : SRecv) (v32 : (List SSpan)) (kr : Option R) : Option R :=
  kr
def s1007_54 (cp : CP) (n : Nat) (p0 : (List SSpan)) (q0 : SRecv) (kr : (List SSpan) → Option R) : Option R :=
  s1007_50 cp n p0 q0 (fun v32 => s1007_51 cp n q0 v32 (kr v32))
def s1007_56 (cp : CP) (n : Nat) (p0 : (List SSpan)) (q0 : SRecv) (kr : (List SSpan) → Option R) : Option R :=
  s1007_1 cp n p0 q0 (s1007_54 cp n p0 q0 (fun v33 => (kr v33)))
def G1007 (cp : CP) : Nat → (List SSpan) → SRecv → ((List SSpan) → SRecv → Option R) → Option R
  | 0, _, _, _ => none
  | n + 1, p0, q0, k =>
    s1007_56 cp n p0 q0 (fun v34 => k v34 q0)
/-! slices.Collect[tideway/api.Span] -/
def G1006 (cp : CP) : Nat → SRecv → ((List SSpan) → SRecv → Option R) → Option R
  | 0, _, _ => none
  | n + 1, q0, k =>
    G1007 cp n [] q0 (fun r35 r36 => k r35 r36)
/-! slices.Index[[]tideway/api.Span,tideway/api.Span] -/
def s72_1 (cp : CP) (n : Nat) (p0 : (List SSpan)) (p1 : SSpan) (kn : Option R) : Option R :=
  kn
def s72_3 (cp : CP) (n : Nat) (p0 : (List SSpan)) (p1 : SSpan) (kn : Int → Option R) : Option R :=
  kn (p0.length : Int)
def s72_5 (cp : CP) (n : Nat) (p0 : (List SSpan)) (p1 : SSpan) (v41 v42 : Int) (kn : Int → Option R) (kr : Option R) (ke0 : Option R) : Option R :=
  cond (decide (v42 < v41)) (cond (decide (0 ≤ v42)) (cond (decide (v42 < (p0.length : Int))) (cond ((decide (p1.xFrom = (p0.getD (Int.toNat v42) zSpan).xFrom) && (decide (p1.xTo = (p0.getD (Int.toNat v42) zSpan).xTo) && true))) (kr) (kn (wr .i64 (v42 + 1)))) (none)) (none)) (ke0)
def l72_11 (cp : CP) (n : Nat) : Nat → (List SSpan) → SSpan → Int → Int → (Int → Option R) → (Option R) → Option R
  | 0, _, _, _, _, _, _ => none
  | m + 1, p0, p1, v41, v42, kr, ke0 =>
    s72_5 cp n p0 p1 v41 v42 (fun v43 => l72_11 cp n m p0 p1 v41 v43 kr ke0) (kr v42) ke0
def s72_12 (cp : CP) (n : Nat) (p0 : (List SSpan)) (p1 : SSpan) (v41 : Int) (kr : Int → Option R) (ke0 : Option R) : Option R :=
  l72_11 cp n n p0 p1 v41 0 kr ke0
def s72_14 (cp : CP) (n : Nat) (p0 : (List SSpan)) (p1 : SSpan) (v41 : Int) (kn : Option R) (kr : Int → Option R) : Option R :=
  s72_12 cp n p0 p1 v41 (fun v44 => (kr v44)) kn
def s72_16 (cp : CP) (n : Nat) (p0 : (List SSpan)) (p1 : SSpan) (kn : Option R) (kr : Int → Option R) : Option R :=
  s72_3 cp n p0 p1 (fun v41 => s72_14 cp n p0 p1 v41 kn (fun v45 => (kr v45)))
def s72_17 (cp : CP) (n : Nat) (kr : Option R) : Option R :=
  kr
def s72_20 (cp : CP) (n : Nat) (p0 : (List SSpan)) (p1 : SSpan) (kr : Int → Option R) : Option R :=
  s72_16 cp n p0 p1 (s72_17 cp n (kr (-1))) (fun v46 => (kr v46))
def s72_22 (cp : CP) (n : Nat) (p0 : (List SSpan)) (p1 : SSpan) (kr : Int → Option R) : Option R :=
  s72_1 cp n p0 p1 (s72_20 cp n p0 p1 (fun v47 => (kr v47)))
def G72 (cp : CP) : Nat → (List SSpan) → SSpan → (Int → Option R) → Option R
  | 0, _, _, _ => none
  | n + 1, p0, p1, k =>
    s72_22 cp n p0 p1 (fun v48 => k v48)
/-! slices.Contains[[]tideway/api.Span,tideway/api.Span] -/
def G56 (cp : CP) : Nat → (List SSpan) → SSpan → (Bool → Option R) → Option R
  | 0, _, _, _ => none
  | n + 1, p0, p1, k =>
    G72 cp n p0 p1 (fun r49 => k (decide (0 ≤ r49)))
/-! tideway/recv.pieces -/
def s28_1 (cp : CP) (n : Nat) (p0 : SRecv) (kn : Option R) : Option R :=
  kn
def s28_3 (cp : CP) (n : Nat) (p0 : SRecv) (kn : Int → Option R) : Option R :=
  kn (p0.xLate.length : Int)
def s28_5 (cp : CP) (n : Nat) (p0 : SRecv) (v2 v3 v4 : Int) (kn : Int → Int → Option R) (kr : Option R) (ke0 : Option R) : Option R :=
  cond (decide (v4 < v2)) (cond (decide (0 ≤ v4)) (cond (decide (v4 < (p0.xLate.length : Int))) (cond (decide ((((p0.xLate.getD (Int.toNat v4) zPiece).xData).length : Int) = 0)) (kr) (cond (decide (((p0.xLate.getD (Int.toNat v4) zPiece).xFrom) ≤ v3)) (kr) (G53 cp n p0 (fun r5 => cond (decide ((wr .i64 (r5 - (((p0.xLate.getD (Int.toNat v4) zPiece).xData).length : Int))) < ((p0.xLate.getD (Int.toNat v4) zPiece).xFrom))) (kr) (cond (decide (0 ≤ p0.xFin)) (cond (decide ((wr .i64 (p0.xFin - (((p0.xLate.getD (Int.toNat v4) zPiece).xData).length : Int))) < ((p0.xLate.getD (Int.toNat v4) zPiece).xFrom))) (kr) (kn (wr .i64 (((p0.xLate.getD (Int.toNat v4) zPiece).xFrom) + (((p0.xLate.getD (Int.toNat v4) zPiece).xData).length : Int))) (wr .i64 (v4 + 1)))) (kn (wr .i64 (((p0.xLate.getD (Int.toNat v4) zPiece).xFrom) + (((p0.xLate.getD (Int.toNat v4) zPiece).xData).length : Int))) (wr .i64 (v4 + 1)))))))) (none)) (none)) (ke0)
def l28_10 (cp : CP) (n : Nat) : Nat → SRecv → Int → Int → Int → (Option R) → (Option R) → Option R
  | 0, _, _, _, _, _, _ => none
  | m + 1, p0, v2, v3, v4, kr, ke0 =>
    s28_5 cp n p0 v2 v3 v4 (fun v6 v7 => l28_10 cp n m p0 v2 v6 v7 kr ke0) kr ke0
def s28_11 (cp : CP) (n : Nat) (p0 : SRecv) (v2 : Int) (kr : Option R) (ke0 : Option R) : Option R :=
  l28_10 cp n n p0 v2 p0.xNext 0 kr ke0
def s28_12 (cp : CP) (n : Nat) (p0 : SRecv) (v2 : Int) (kn : Option R) (kr : Option R) : Option R :=
  s28_11 cp n p0 v2 kr kn
def s28_13 (cp : CP) (n : Nat) (p0 : SRecv) (kn : Option R) (kr : Option R) : Option R :=
  s28_3 cp n p0 (fun v2 => s28_12 cp n p0 v2 kn kr)
def s28_14 (cp : CP) (n : Nat) (p0 : SRecv) (kn : (List SSpan) → Option R) : Option R :=
  G55 cp n p0 (fun r8 => G1006 cp n r8 (fun r37 r38 => kn r37))
def s28_16 (cp : CP) (n : Nat) (p0 : SRecv) (v39 : (List SSpan)) (kn : Int → Option R) : Option R :=
  kn (p0.xFirst.length : Int)
def s28_18 (cp : CP) (n : Nat) (p0 : SRecv) (v39 : (List SSpan)) (v40 v41 : Int) (kn : Int → Option R) (kr : Option R) (ke2 : Option R) : Option R :=
  cond (decide (v41 < v40)) (cond (decide (0 ≤ v41)) (cond (decide (v41 < (p0.xFirst.length : Int))) (G56 cp n v39 (p0.xFirst.getD (Int.toNat v41) zSpan) (fun r42 => cond (!r42) (kr) (cond (decide (0 ≤ v41)) (cond (decide (v41 ≤ (p0.xFirst.length : Int))) (G56 cp n (p0.xFirst.take (Int.toNat v41)) (p0.xFirst.getD (Int.toNat v41) zSpan) (fun r43 => cond (r43) (kr) (kn (wr .i64 (v41 + 1))))) (none)) (none)))) (none)) (none)) (ke2)
def l28_22 (cp : CP) (n : Nat) : Nat → SRecv → (List SSpan) → Int → Int → (Option R) → (Option R) → Option R
  | 0, _, _, _, _, _, _ => none
  | m + 1, p0, v39, v40, v41, kr, ke2 =>
    s28_18 cp n p0 v39 v40 v41 (fun v44 => l28_22 cp n m p0 v39 v40 v44 kr ke2) kr ke2
def s28_23 (cp : CP) (n : Nat) (p0 : SRecv) (v39 : (List SSpan)) (v40 : Int) (kr : Option R) (ke2 : Option R) : Option R :=
  l28_22 cp n n p0 v39 v40 0 kr ke2
def s28_24 (cp : CP) (n : Nat) (p0 : SRecv) (v39 : (List SSpan)) (v40 : Int) (kn : Option R) (kr : Option R) : Option R :=
  s28_23 cp n p0 v39 v40 kr kn
def s28_25 (cp : CP) (n : Nat) (p0 : SRecv) (v39 : (List SSpan)) (kn : Option R) (kr : Option R) : Option R :=
  s28_16 cp n p0 v39 (fun v40 => s28_24 cp n p0 v39 v40 kn kr)
def s28_26 (cp : CP) (n : Nat) (kr : Option R) : Option R :=
  kr
def s28_29 (cp : CP) (n : Nat) (p0 : SRecv) (v39 : (List SSpan)) (kr : Bool → Option R) : Option R :=
  s28_25 cp n p0 v39 (s28_26 cp n (kr true)) (kr false)
def s28_31 (cp : CP) (n : Nat) (p0 : SRecv) (kr : Bool → Option R) : Option R :=
  s28_14 cp n p0 (fun v39 => s28_29 cp n p0 v39 (fun v45 => (kr v45)))
def s28_33 (cp : CP) (n : Nat) (p0 : SRecv) (kr : Bool → Option R) : Option R :=
  s28_13 cp n p0 (s28_31 cp n p0 (fun v46 => (kr v46))) (kr false)
def s28_35 (cp : CP) (n : Nat) (p0 : SRecv) (kr : Bool → Option R) : Option R :=
  s28_1 cp n p0 (s28_33 cp n p0 (fun v47 => (kr v47)))
def G28 (cp : CP) : Nat → SRecv → (Bool → Option R) → Option R
  | 0, _, _ => none
  | n + 1, p0, k =>
    s28_35 cp n p0 (fun v48 => k v48)
/-! tideway/recv.Check -/
def s10_1 (cp : CP) (n : Nat) (p0 : SRecv) (kn : Option R) : Option R :=
  kn
def s10_3 (cp : CP) (n : Nat) (p0 : SRecv) (kn : Option R) (kr : Option R) : Option R :=
  cond (decide (0 ≤ p0.xNext)) (cond (decide (p0.xNext ≤ 562949953421312)) (cond (decide (1 ≤ p0.xCap)) (cond (decide (p0.xCap ≤ 1073741824)) (cond (decide (0 ≤ p0.xShift)) (cond (decide (p0.xShift ≤ 14)) (cond (!(decide ((p0.xUnread.length : Int) ≤ (mn p0.xCap p0.xNext)))) (kr) (cond (decide (p0.xEdge < 0)) (kr) (G27 cp n p0 (fun r1 => cond (decide (r1 < p0.xEdge)) (kr) (cond (decide (p0.xFin < (-1))) (kr) (cond (decide (0 ≤ p0.xFin)) (cond (decide (p0.xFin < p0.xNext)) (kr) (cond (decide (562949953421312 < p0.xFin)) (kr) (kn))) (cond (decide (562949953421312 < p0.xFin)) (kr) (kn)))))))) (kr)) (kr)) (kr)) (kr)) (kr)) (kr)
def s10_5 (cp : CP) (n : Nat) (p0 : SRecv) (kr : Int → Option R) : Option R :=
  G28 cp n p0 (fun r2 => cond (!r2) (kr 230) (cond (!(p0.xDone == (decide (p0.xFin = p0.xNext)))) (kr 230) (cond (p0.xDone) (cond (decide (0 < (p0.xLate.length : Int))) (kr 230) (kr 0)) (kr 0))))
def s10_8 (cp : CP) (n : Nat) (p0 : SRecv) (kr : Int → Option R) : Option R :=
  s10_3 cp n p0 (s10_5 cp n p0 (fun v3 => (kr v3))) (kr 230)
def s10_10 (cp : CP) (n : Nat) (p0 : SRecv) (kr : Int → Option R) : Option R :=
  s10_1 cp n p0 (s10_8 cp n p0 (fun v4 => (kr v4)))
def G10 (cp : CP) : Nat → SRecv → (Int → Option R) → Option R
  | 0, _, _ => none
  | n + 1, p0, k =>
    s10_10 cp n p0 (fun v5 => k v5)
/-! tideway/recv.window -/
def G49 (cp : CP) : Nat → SRecv → (Int → Option R) → Option R
  | 0, _, _ => none
  | n + 1, p0, k =>
    cond (decide (p0.xShift < 0)) (none) (cond (decide (p0.xShift < 0)) (none) (k (shl .i64 (mn (shr .i64 (wr .i64 (p0.xCap - (p0.xUnread.length : Int))) p0.xShift) 65535) p0.xShift)))
/-! tideway/recv.Window -/
def G22 (cp : CP) : Nat → SRecv → (Int → Option R) → Option R
  | 0, _, _ => none
  | n + 1, p0, k =>
    G10 cp n p0 (fun r7 => cond (!decide (r7 = 0)) (k 0) (G49 cp n p0 (fun r8 => k r8)))
/-! tideway/recv.New -/
def G17 (cp : CP) : Nat → Int → Int → Int → Int → Bool → Bool → (SRecv → Int → Option R) → Option R
  | 0, _, _, _, _, _, _, _ => none
  | n + 1, p0, p1, p2, p3, p4, p5, k =>
    cond (decide (p0 < 1)) (k (SRecv.mk 0 [] [] 0 0 0 0 false false 0 false [] 0 0 false) 2) (cond (decide (1073741824 < p0)) (k (SRecv.mk 0 [] [] 0 0 0 0 false false 0 false [] 0 0 false) 2) (cond (decide (p1 < 0)) (k (SRecv.mk 0 [] [] 0 0 0 0 false false 0 false [] 0 0 false) 2) (cond (decide (14 < p1)) (k (SRecv.mk 0 [] [] 0 0 0 0 false false 0 false [] 0 0 false) 2) (G49 cp n (SRecv.mk 0 [] [] p0 p1 0 0 p4 p5 (-1) false [] p2 p3 false) (fun r10 => k (SRecv.mk 0 [] [] p0 p1 r10 0 p4 p5 (-1) false [] p2 p3 false) 0)))))
/-! slices.Clone[[]tideway/api.Span,tideway/api.Span] -/
def G57 (cp : CP) : Nat → (List SSpan) → ((List SSpan) → Option R) → Option R
  | 0, _, _ => none
  | n + 1, p0, k => cond (cp (0 + p0.length) 16) (k p0) none
/-! bytes.Clone -/
def G52 (cp : CP) : Nat → (List Int) → ((List Int) → Option R) → Option R
  | 0, _, _ => none
  | n + 1, p0, k => cond (cp (0 + p0.length) 1) (k p0) none
/-! tideway/recv.copied -/
def s29_1 (cp : CP) (n : Nat) (p0 : SRecv) (kn : (List Int) → (List SSpan) → Option R) : Option R :=
  cond (cp (([] : List Int).length + p0.xUnread.length) 1) (G57 cp n p0.xFirst (fun r16 => kn ([] ++ p0.xUnread) r16)) (none)
def s29_3 (cp : CP) (n : Nat) (p0 : SRecv) (v17 : (List Int)) (v18 : (List SSpan)) (kn : Int → Option R) : Option R :=
  kn (p0.xLate.length : Int)
def s29_5 (cp : CP) (n : Nat) (p0 : SRecv) (v17 : (List Int)) (v18 : (List SSpan)) (v19 v20 : Int) (v21 : (List SPiece)) (kn : Int → (List SPiece) → Option R) (ke0 : Option R) : Option R :=
  cond (decide (v20 < v19)) (cond (decide (0 ≤ v20)) (cond (decide (v20 < (p0.xLate.length : Int))) (G52 cp n ((p0.xLate.getD (Int.toNat v20) zPiece).xData) (fun r22 => cond (cp (v21.length + [(SPiece.mk ((p0.xLate.getD (Int.toNat v20) zPiece).xFrom) r22)].length) 32) (kn (wr .i64 (v20 + 1)) (v21 ++ [(SPiece.mk ((p0.xLate.getD (Int.toNat v20) zPiece).xFrom) r22)])) (none))) (none)) (none)) (ke0)
def l29_10 (cp : CP) (n : Nat) : Nat → SRecv → (List Int) → (List SSpan) → Int → Int → (List SPiece) → ((List SPiece) → Option R) → Option R
  | 0, _, _, _, _, _, _, _ => none
  | m + 1, p0, v17, v18, v19, v20, v21, ke0 =>
    s29_5 cp n p0 v17 v18 v19 v20 v21 (fun v23 v24 => l29_10 cp n m p0 v17 v18 v19 v23 v24 ke0) (ke0 v21)
def s29_11 (cp : CP) (n : Nat) (p0 : SRecv) (v17 : (List Int)) (v18 : (List SSpan)) (v19 : Int) (ke0 : (List SPiece) → Option R) : Option R :=
  l29_10 cp n n p0 v17 v18 v19 0 [] ke0
def s29_13 (cp : CP) (n : Nat) (p0 : SRecv) (v17 : (List Int)) (v18 : (List SSpan)) (v19 : Int) (kn : (List SPiece) → Option R) : Option R :=
  s29_11 cp n p0 v17 v18 v19 (fun v25 => (kn v25))
def s29_15 (cp : CP) (n : Nat) (p0 : SRecv) (v17 : (List Int)) (v18 : (List SSpan)) (kn : (List SPiece) → Option R) : Option R :=
  s29_3 cp n p0 v17 v18 (fun v19 => s29_13 cp n p0 v17 v18 v19 (fun v26 => (kn v26)))
def s29_16 (cp : CP) (n : Nat) (p0 : SRecv) (v17 : (List Int)) (v18 : (List SSpan)) (v27 : (List SPiece)) (kr : Option R) : Option R :=
  kr
def s29_19 (cp : CP) (n : Nat) (p0 : SRecv) (v17 : (List Int)) (v18 : (List SSpan)) (kr : (List SPiece) → Option R) : Option R :=
  s29_15 cp n p0 v17 v18 (fun v27 => s29_16 cp n p0 v17 v18 v27 (kr v27))
def s29_21 (cp : CP) (n : Nat) (p0 : SRecv) (kr : SRecv → Option R) : Option R :=
  s29_1 cp n p0 (fun v17 v18 => s29_19 cp n p0 v17 v18 (fun v28 => (kr (SRecv.mk p0.xNext v17 v28 p0.xCap p0.xShift p0.xEdge p0.xRecent p0.xStamps p0.xSacks p0.xFin p0.xDone v18 p0.xIrs p0.xOwn p0.xStamp))))
def G29 (cp : CP) : Nat → SRecv → (SRecv → Option R) → Option R
  | 0, _, _ => none
  | n + 1, p0, k =>
    s29_21 cp n p0 (fun v29 => k v29)
/-! tideway/seq.Diff -/
def G31 (cp : CP) : Nat → Int → Int → (Int → Option R) → Option R
  | 0, _, _, _ => none
  | n + 1, p0, p1, k =>
    k (wr .i64 (wr .i32 (wr .u32 (p1 - p0))))
/-! tideway/seq.Sum -/
def G58 (cp : CP) : Nat → Int → Int → (Int → Option R) → Option R
  | 0, _, _, _ => none
  | n + 1, p0, p1, k =>
    cond (decide (0 < p0)) (cond (decide (0 < p1)) (cond (decide ((wr .i64 (p0 + p1)) < 0)) (k 9223372036854775807) (cond (decide (p0 < 0)) (cond (decide (p1 < 0)) (cond (decide (0 ≤ (wr .i64 (p0 + p1)))) (k (-9223372036854775808)) (k (wr .i64 (p0 + p1)))) (k (wr .i64 (p0 + p1)))) (k (wr .i64 (p0 + p1))))) (cond (decide (p0 < 0)) (cond (decide (p1 < 0)) (cond (decide (0 ≤ (wr .i64 (p0 + p1)))) (k (-9223372036854775808)) (k (wr .i64 (p0 + p1)))) (k (wr .i64 (p0 + p1)))) (k (wr .i64 (p0 + p1))))) (cond (decide (p0 < 0)) (cond (decide (p1 < 0)) (cond (decide (0 ≤ (wr .i64 (p0 + p1)))) (k (-9223372036854775808)) (k (wr .i64 (p0 + p1)))) (k (wr .i64 (p0 + p1)))) (k (wr .i64 (p0 + p1))))
/-! tideway/seq.Unwrap -/
def G30 (cp : CP) : Nat → Int → Int → (Int → Option R) → Option R
  | 0, _, _, _ => none
  | n + 1, p0, p1, k =>
    G31 cp n (wr .u32 p0) p1 (fun r31 => G58 cp n p0 r31 (fun r32 => k r32))
/-! tideway/seq.Add -/
def G36 (cp : CP) : Nat → Int → Int → (Int → Option R) → Option R
  | 0, _, _, _ => none
  | n + 1, p0, p1, k =>
    k (wr .u32 (p0 + (wr .u32 p1)))
/-! tideway/recv.tell -/
def s32_1 (cp : CP) (n : Nat) (p0 : SRecv) (p1 : (List SBlock)) (kn : Int → SSegment → Option R) : Option R :=
  cond (p0.xDone) (G36 cp n p0.xIrs (wr .i64 (p0.xNext + 1)) (fun r43 => G49 cp n p0 (fun r44 => cond (decide (p0.xShift < 0)) (none) (cond (p0.xStamps) (kn (wr .i64 (4 - 1)) (SSegment.mk 0 0 p0.xOwn r43 16 (shr .i64 r44 p0.xShift) 0 (-1) (-1) false true 0 p0.xRecent p1 [])) (kn 4 (SSegment.mk 0 0 p0.xOwn r43 16 (shr .i64 r44 p0.xShift) 0 (-1) (-1) false false 0 0 p1 [])))))) (G36 cp n p0.xIrs p0.xNext (fun r45 => G49 cp n p0 (fun r46 => cond (decide (p0.xShift < 0)) (none) (cond (p0.xStamps) (kn (wr .i64 (4 - 1)) (SSegment.mk 0 0 p0.xOwn r45 16 (shr .i64 r46 p0.xShift) 0 (-1) (-1) false true 0 p0.xRecent p1 [])) (kn 4 (SSegment.mk 0 0 p0.xOwn r45 16 (shr .i64 r46 p0.xShift) 0 (-1) (-1) false false 0 0 p1 []))))))
def s32_3 (cp : CP) (n : Nat) (p0 : SRecv) (v47 : Int) (v48 : SSegment) (kn : Int → Option R) : Option R :=
  kn (p0.xFirst.length : Int)
def s32_5 (cp : CP) (n : Nat) (p0 : SRecv) (v47 : Int) (v48 : SSegment) (v49 v50 : Int) (v51 : (List SBlock)) (kn : Int → (List SBlock) → Option R) (ke0 : Option R) : Option R :=
  cond (decide (v50 < v49)) (cond (decide (0 ≤ v50)) (cond (decide (v50 < (p0.xFirst.length : Int))) (cond (p0.xSacks) (cond (decide ((v51.length : Int) < v47)) (G36 cp n p0.xIrs ((p0.xFirst.getD (Int.toNat v50) zSpan).xFrom) (fun r52 => G36 cp n p0.xIrs ((p0.xFirst.getD (Int.toNat v50) zSpan).xTo) (fun r53 => cond (cp (v51.length + [(SBlock.mk r52 r53)].length) 8) (kn (wr .i64 (v50 + 1)) (v51 ++ [(SBlock.mk r52 r53)])) (none)))) (kn (wr .i64 (v50 + 1)) v51)) (kn (wr .i64 (v50 + 1)) v51)) (none)) (none)) (ke0)
def l32_10 (cp : CP) (n : Nat) : Nat → SRecv → Int → SSegment → Int → Int → (List SBlock) → ((List SBlock) → Option R) → Option R
  | 0, _, _, _, _, _, _, _ => none
  | m + 1, p0, v47, v48, v49, v50, v51, ke0 =>
    s32_5 cp n p0 v47 v48 v49 v50 v51 (fun v54 v55 => l32_10 cp n m p0 v47 v48 v49 v54 v55 ke0) (ke0 v51)
def s32_11 (cp : CP) (n : Nat) (p0 : SRecv) (v47 : Int) (v48 : SSegment) (v49 : Int) (ke0 : (List SBlock) → Option R) : Option R :=
  l32_10 cp n n p0 v47 v48 v49 0 v48.xSacks ke0
def s32_13 (cp : CP) (n : Nat) (p0 : SRecv) (v47 : Int) (v48 : SSegment) (v49 : Int) (kn : (List SBlock) → Option R) : Option R :=
  s32_11 cp n p0 v47 v48 v49 (fun v56 => (kn v56))
def s32_15 (cp : CP) (n : Nat) (p0 : SRecv) (v47 : Int) (v48 : SSegment) (kn : (List SBlock) → Option R) : Option R :=
  s32_3 cp n p0 v47 v48 (fun v49 => s32_13 cp n p0 v47 v48 v49 (fun v57 => (kn v57)))
def s32_16 (cp : CP) (n : Nat) (p0 : SRecv) (v48 : SSegment) (v58 : (List SBlock)) (kr : Int → Option R) : Option R :=
  G49 cp n p0 (fun r59 => kr (mx p0.xEdge (wr .i64 (p0.xNext + r59))))
def s32_19 (cp : CP) (n : Nat) (p0 : SRecv) (v47 : Int) (v48 : SSegment) (kr : Int → (List SBlock) → Option R) : Option R :=
  s32_15 cp n p0 v47 v48 (fun v58 => s32_16 cp n p0 v48 v58 (fun v60 => (kr v60 v58)))
def s32_21 (cp : CP) (n : Nat) (p0 : SRecv) (p1 : (List SBlock)) (kr : Int → SSegment → Option R) : Option R :=
  s32_1 cp n p0 p1 (fun v47 v48 => s32_19 cp n p0 v47 v48 (fun v61 v62 => (kr v61 (SSegment.mk v48.xSrcPort v48.xDstPort v48.xSeq v48.xAck v48.xFlags v48.xWin v48.xUrg v48.xMss v48.xScale v48.xSackOk v48.xStamped v48.xVal v48.xEcr v62 v48.xData))))
def G32 (cp : CP) : Nat → SRecv → (List SBlock) → (SRecv → SSegment → Option R) → Option R
  | 0, _, _, _ => none
  | n + 1, p0, p1, k =>
    s32_21 cp n p0 p1 (fun v63 v64 => k (SRecv.mk p0.xNext p0.xUnread p0.xLate p0.xCap p0.xShift v63 p0.xRecent p0.xStamps p0.xSacks p0.xFin p0.xDone p0.xFirst p0.xIrs p0.xOwn p0.xStamp) v64)
/-! tideway/recv.end -/
def s33_1 (cp : CP) (n : Nat) (p0 : SRecv) (p1 : Int) (kn : Option R) : Option R :=
  kn
def s33_3 (cp : CP) (n : Nat) (p0 : SRecv) (p1 : Int) (kn : SRecv → Option R) : Option R :=
  G55 cp n p0 (fun r29 => kn r29)
def s33_7 (cp : CP) (n : Nat) (p0 : SRecv) (p1 : Int) (v30 : SRecv) (kn : Int → Option R) : Option R :=
  kn (v30.xLate.length : Int)
def s33_9 (cp : CP) (n : Nat) (p0 : SRecv) (p1 : Int) (v30 : SRecv) (v31 v32 v33 : Int) (kn : Option R) (ke0 : Option R) : Option R :=
  cond (decide (v32 < v31)) (kn) (ke0)
def s33_12 (cp : CP) (n : Nat) (p0 : SRecv) (p1 : Int) (v30 : SRecv) (v31 v32 v33 : Int) (kn : Int → (List Int) → Option R) : Option R :=
  cond (decide (0 ≤ v32)) (cond (decide (v32 < (v30.xLate.length : Int))) (kn ((v30.xLate.getD (Int.toNat v32) zPiece).xFrom) ((v30.xLate.getD (Int.toNat v32) zPiece).xData)) (none)) (none)
def s33_14 (cp : CP) (n : Nat) (p0 : SRecv) (p1 : Int) (v30 : SRecv) (v31 v32 v33 v34 : Int) (v35 : (List Int)) (ka : Int → Int → Option R) : Option R :=
  G71 cp n (SPiece.mk v34 v35) (fun r36 => ka r36.xFrom r36.xTo)
def s33_16 (cp : CP) (n : Nat) (p0 : SRecv) (p1 : Int) (v30 : SRecv) (v33 v34 : Int) (v35 : (List Int)) (v37 v38 : Int) (kn : Option R) : Option R :=
  kn
def s33_22 (cp : CP) (n : Nat) (p0 : SRecv) (p1 : Int) (v30 : SRecv) (v31 v32 v33 v34 : Int) (v35 : (List Int)) (kn : Int → Option R) : Option R :=
  s33_14 cp n p0 p1 v30 v31 v32 v33 v34 v35 (fun v37 v38 => s33_16 cp n p0 p1 v30 v33 v34 v35 v37 v38 (kn v38))
def s33_23 (cp : CP) (n : Nat) (p0 : SRecv) (p1 : Int) (v30 : SRecv) (v31 v32 v39 : Int) (kn : Option R) : Option R :=
  kn
def s33_26 (cp : CP) (n : Nat) (p0 : SRecv) (p1 : Int) (v30 : SRecv) (v31 v32 v33 v34 : Int) (v35 : (List Int)) (kn : Int → Option R) : Option R :=
  s33_22 cp n p0 p1 v30 v31 v32 v33 v34 v35 (fun v39 => s33_23 cp n p0 p1 v30 v31 v32 v39 (kn v39))
def s33_28 (cp : CP) (n : Nat) (p0 : SRecv) (p1 : Int) (v30 : SRecv) (v31 v32 v33 : Int) (kn : Int → Option R) : Option R :=
  s33_12 cp n p0 p1 v30 v31 v32 v33 (fun v34 v35 => s33_26 cp n p0 p1 v30 v31 v32 v33 v34 v35 (fun v40 => (kn v40)))
def s33_30 (cp : CP) (n : Nat) (p0 : SRecv) (p1 : Int) (v30 : SRecv) (v31 v32 v33 : Int) (kn : Int → Option R) : Option R :=
  s33_28 cp n p0 p1 v30 v31 v32 v33 (fun v41 => (kn v41))
def s33_31 (cp : CP) (n : Nat) (p0 : SRecv) (p1 : Int) (v30 : SRecv) (v31 v32 v42 : Int) (kn : Int → Option R) : Option R :=
  kn (wr .i64 (v32 + 1))
def s33_34 (cp : CP) (n : Nat) (p0 : SRecv) (p1 : Int) (v30 : SRecv) (v31 v32 v33 : Int) (kn : Int → Int → Option R) : Option R :=
  s33_30 cp n p0 p1 v30 v31 v32 v33 (fun v42 => s33_31 cp n p0 p1 v30 v31 v32 v42 (fun v43 => (kn v43 v42)))
def s33_36 (cp : CP) (n : Nat) (p0 : SRecv) (p1 : Int) (v30 : SRecv) (v31 v32 v33 : Int) (kn : Int → Int → Option R) (ke0 : Option R) : Option R :=
  s33_9 cp n p0 p1 v30 v31 v32 v33 (s33_34 cp n p0 p1 v30 v31 v32 v33 (fun v44 v45 => (kn v44 v45))) ke0
def l33_38 (cp : CP) (n : Nat) : Nat → SRecv → Int → SRecv → Int → Int → Int → (Int → Option R) → Option R
  | 0, _, _, _, _, _, _, _ => none
  | m + 1, p0, p1, v30, v31, v32, v33, ke0 =>
    s33_36 cp n p0 p1 v30 v31 v32 v33 (fun v46 v47 => l33_38 cp n m p0 p1 v30 v31 v46 v47 ke0) (ke0 v33)
def s33_39 (cp : CP) (n : Nat) (p0 : SRecv) (p1 : Int) (v30 : SRecv) (v31 : Int) (ke0 : Int → Option R) : Option R :=
  l33_38 cp n n p0 p1 v30 v31 0 p0.xNext ke0
def s33_41 (cp : CP) (n : Nat) (p0 : SRecv) (p1 : Int) (v30 : SRecv) (v31 : Int) (kn : Int → Option R) : Option R :=
  s33_39 cp n p0 p1 v30 v31 (fun v48 => (kn v48))
def s33_43 (cp : CP) (n : Nat) (p0 : SRecv) (p1 : Int) (v30 : SRecv) (kn : Int → Option R) : Option R :=
  s33_7 cp n p0 p1 v30 (fun v31 => s33_41 cp n p0 p1 v30 v31 (fun v49 => (kn v49)))
def s33_46 (cp : CP) (n : Nat) (p0 : SRecv) (p1 : Int) (v30 : SRecv) (kn : Int → Option R) : Option R :=
  s33_43 cp n p0 p1 v30 (fun v50 => (kn v50))
def s33_48 (cp : CP) (n : Nat) (p0 : SRecv) (p1 : Int) (v30 : SRecv) (kn : Int → Option R) : Option R :=
  s33_46 cp n p0 p1 v30 (fun v51 => (kn v51))
def s33_50 (cp : CP) (n : Nat) (p0 : SRecv) (p1 : Int) (kn : Int → Option R) : Option R :=
  s33_3 cp n p0 p1 (fun v30 => s33_48 cp n p0 p1 v30 (fun v52 => (kn v52)))
def s33_51 (cp : CP) (n : Nat) (p0 : SRecv) (p1 v53 : Int) (kr : Int → Option R) : Option R :=
  cond (decide (p0.xFin < 0)) (cond (decide (v53 ≤ p1)) (G53 cp n p0 (fun r54 => cond (decide (p1 ≤ r54)) (kr p1) (kr p0.xFin))) (kr p0.xFin)) (kr p0.xFin)
def s33_54 (cp : CP) (n : Nat) (p0 : SRecv) (p1 : Int) (kr : Int → Option R) : Option R :=
  s33_50 cp n p0 p1 (fun v53 => s33_51 cp n p0 p1 v53 (fun v55 => (kr v55)))
def s33_56 (cp : CP) (n : Nat) (p0 : SRecv) (p1 : Int) (kr : Int → Option R) : Option R :=
  s33_1 cp n p0 p1 (s33_54 cp n p0 p1 (fun v56 => (kr v56)))
def G33 (cp : CP) : Nat → SRecv → Int → (Int → Option R) → Option R
  | 0, _, _, _ => none
  | n + 1, p0, p1, k =>
    s33_56 cp n p0 p1 (fun v57 => k v57)
/-! tideway/span.may -/
def G82 (cp : CP) : Nat → SSpan → (Bool → Option R) → Option R
  | 0, _, _ => none
  | n + 1, p0, k =>
    cond (decide (0 ≤ p0.xFrom)) (cond (decide (p0.xFrom ≤ p0.xTo)) (k (decide (p0.xTo ≤ 1125899906842624))) (k false)) (k false)
/-! tideway/span.Check -/
def s78_1 (cp : CP) (n : Nat) (p0 : (List SSpan)) (kn : Option R) : Option R :=
  kn
def s78_3 (cp : CP) (n : Nat) (p0 : (List SSpan)) (kn : Int → Option R) : Option R :=
  kn (p0.length : Int)
def s78_5 (cp : CP) (n : Nat) (p0 : (List SSpan)) (v91 v92 : Int) (kn : Int → Option R) (kr : Option R) (ke0 : Option R) : Option R :=
  cond (decide (v92 < v91)) (cond (decide (0 ≤ v92)) (cond (decide (v92 < (p0.length : Int))) (G82 cp n (p0.getD (Int.toNat v92) zSpan) (fun r93 => cond (!r93) (kr) (cond (decide (((p0.getD (Int.toNat v92) zSpan).xFrom) = ((p0.getD (Int.toNat v92) zSpan).xTo))) (kr) (cond (decide (0 < v92)) (cond (decide (0 ≤ wr .i64 (v92 - 1))) (cond (decide (wr .i64 (v92 - 1) < (p0.length : Int))) (cond (decide (((p0.getD (Int.toNat v92) zSpan).xFrom) ≤ ((p0.getD (Int.toNat (wr .i64 (v92 - 1))) zSpan).xTo))) (kr) (kn (wr .i64 (v92 + 1)))) (none)) (none)) (kn (wr .i64 (v92 + 1))))))) (none)) (none)) (ke0)
def l78_10 (cp : CP) (n : Nat) : Nat → (List SSpan) → Int → Int → (Option R) → (Option R) → Option R
  | 0, _, _, _, _, _ => none
  | m + 1, p0, v91, v92, kr, ke0 =>
    s78_5 cp n p0 v91 v92 (fun v94 => l78_10 cp n m p0 v91 v94 kr ke0) kr ke0
def s78_11 (cp : CP) (n : Nat) (p0 : (List SSpan)) (v91 : Int) (kr : Option R) (ke0 : Option R) : Option R :=
  l78_10 cp n n p0 v91 0 kr ke0
def s78_12 (cp : CP) (n : Nat) (p0 : (List SSpan)) (v91 : Int) (kn : Option R) (kr : Option R) : Option R :=
  s78_11 cp n p0 v91 kr kn
def s78_13 (cp : CP) (n : Nat) (p0 : (List SSpan)) (kn : Option R) (kr : Option R) : Option R :=
  s78_3 cp n p0 (fun v91 => s78_12 cp n p0 v91 kn kr)
def s78_14 (cp : CP) (n : Nat) (kr : Option R) : Option R :=
  kr
def s78_17 (cp : CP) (n : Nat) (p0 : (List SSpan)) (kr : Int → Option R) : Option R :=
  s78_13 cp n p0 (s78_14 cp n (kr 0)) (kr 60)
def s78_19 (cp : CP) (n : Nat) (p0 : (List SSpan)) (kr : Int → Option R) : Option R :=
  s78_1 cp n p0 (s78_17 cp n p0 (fun v95 => (kr v95)))
def G78 (cp : CP) : Nat → (List SSpan) → (Int → Option R) → Option R
  | 0, _, _ => none
  | n + 1, p0, k =>
    s78_19 cp n p0 (fun v96 => k v96)
/-! tideway/span.within -/
def G79 (cp : CP) : Nat → (List SSpan) → SSpan → ((List SSpan) → SSpan → Option R) → Option R
  | 0, _, _, _ => none
  | n + 1, p0, p1, k =>
    k p0 p1
/-! tideway/span.Gaps -/
def s61_1 (cp : CP) (n : Nat) (p0 : (List SSpan)) (p1 : SSpan) (kn : Option R) (kr : Option R) : Option R :=
  G78 cp n p0 (fun r99 => cond (!decide (r99 = 0)) (kr) (cond (decide (p1.xTo ≤ p1.xFrom)) (kr) (kn)))
def s61_4 (cp : CP) (n : Nat) (p0 : (List SSpan)) (p1 : SSpan) (kn : (List SSpan) → Int → Int → Option R) : Option R :=
  G79 cp n p0 p1 (fun r100 r101 => kn r100 r101.xFrom r101.xTo)
def s61_8 (cp : CP) (n : Nat) (p1 : SSpan) (v102 : (List SSpan)) (v103 v104 : Int) (kn : Int → Option R) : Option R :=
  kn (v102.length : Int)
def s61_10 (cp : CP) (n : Nat) (p1 : SSpan) (v102 : (List SSpan)) (v103 v104 v105 v106 : Int) (v107 : (List SSpan)) (v108 : Int) (kn : Option R) (ke0 : Option R) : Option R :=
  cond (decide (v106 < v105)) (kn) (ke0)
def s61_13 (cp : CP) (n : Nat) (p1 : SSpan) (v102 : (List SSpan)) (v103 v104 v105 v106 : Int) (v107 : (List SSpan)) (v108 : Int) (kn : Int → Int → Option R) : Option R :=
  cond (decide (0 ≤ v106)) (cond (decide (v106 < (v102.length : Int))) (kn (mx ((v102.getD (Int.toNat v106) zSpan).xFrom) v103) (mn ((v102.getD (Int.toNat v106) zSpan).xTo) v104)) (none)) (none)
def s61_15 (cp : CP) (n : Nat) (p1 : SSpan) (v102 : (List SSpan)) (v103 v104 v105 v106 : Int) (v107 : (List SSpan)) (v108 v109 v110 : Int) (ka : Bool → Option R) (kb : Bool → Option R) : Option R :=
  cond (decide (v109 < v110)) (ka (decide (v109 < v110))) (kb (decide (v109 < v110)))
def s61_18 (cp : CP) (n : Nat) (p1 : SSpan) (v102 : (List SSpan)) (v103 v104 : Int) (v107 : (List SSpan)) (v108 v109 v110 : Int) (kn : (List SSpan) → Option R) : Option R :=
  cond (decide (v108 < v109)) (cond (cp (v107.length + [(SSpan.mk v108 v109)].length) 16) (kn (v107 ++ [(SSpan.mk v108 v109)])) (none)) (kn v107)
def s61_24 (cp : CP) (n : Nat) (p1 : SSpan) (v102 : (List SSpan)) (v103 v104 v105 v106 : Int) (v107 : (List SSpan)) (v108 v109 v110 : Int) (kn : (List SSpan) → Int → Option R) : Option R :=
  s61_15 cp n p1 v102 v103 v104 v105 v106 v107 v108 v109 v110 (fun v111 => s61_18 cp n p1 v102 v103 v104 v107 v108 v109 v110 (fun v113 => kn v113 v110)) (fun v112 => kn v107 v108)
def s61_25 (cp : CP) (n : Nat) (p1 : SSpan) (v102 : (List SSpan)) (v103 v104 v105 v106 : Int) (v114 : (List SSpan)) (v115 : Int) (kn : Option R) : Option R :=
  kn
def s61_28 (cp : CP) (n : Nat) (p1 : SSpan) (v102 : (List SSpan)) (v103 v104 v105 v106 : Int) (v107 : (List SSpan)) (v108 v109 v110 : Int) (kn : (List SSpan) → Int → Option R) : Option R :=
  s61_24 cp n p1 v102 v103 v104 v105 v106 v107 v108 v109 v110 (fun v114 v115 => s61_25 cp n p1 v102 v103 v104 v105 v106 v114 v115 (kn v114 v115))
def s61_30 (cp : CP) (n : Nat) (p1 : SSpan) (v102 : (List SSpan)) (v103 v104 v105 v106 : Int) (v107 : (List SSpan)) (v108 : Int) (kn : (List SSpan) → Int → Option R) : Option R :=
  s61_13 cp n p1 v102 v103 v104 v105 v106 v107 v108 (fun v109 v110 => s61_28 cp n p1 v102 v103 v104 v105 v106 v107 v108 v109 v110 (fun v116 v117 => (kn v116 v117)))
def s61_32 (cp : CP) (n : Nat) (p1 : SSpan) (v102 : (List SSpan)) (v103 v104 v105 v106 : Int) (v107 : (List SSpan)) (v108 : Int) (kn : (List SSpan) → Int → Option R) : Option R :=
  s61_30 cp n p1 v102 v103 v104 v105 v106 v107 v108 (fun v118 v119 => (kn v118 v119))
def s61_33 (cp : CP) (n : Nat) (p1 : SSpan) (v102 : (List SSpan)) (v103 v104 v105 v106 : Int) (v120 : (List SSpan)) (v121 : Int) (kn : Int → Option R) : Option R :=
  kn (wr .i64 (v106 + 1))
def s61_36 (cp : CP) (n : Nat) (p1 : SSpan) (v102 : (List SSpan)) (v103 v104 v105 v106 : Int) (v107 : (List SSpan)) (v108 : Int) (kn : Int → (List SSpan) → Int → Option R) : Option R :=
  s61_32 cp n p1 v102 v103 v104 v105 v106 v107 v108 (fun v120 v121 => s61_33 cp n p1 v102 v103 v104 v105 v106 v120 v121 (fun v122 => (kn v122 v120 v121)))
def s61_38 (cp : CP) (n : Nat) (p1 : SSpan) (v102 : (List SSpan)) (v103 v104 v105 v106 : Int) (v107 : (List SSpan)) (v108 : Int) (kn : Int → (List SSpan) → Int → Option R) (ke0 : Option R) : Option R :=
  s61_10 cp n p1 v102 v103 v104 v105 v106 v107 v108 (s61_36 cp n p1 v102 v103 v104 v105 v106 v107 v108 (fun v123 v124 v125 => (kn v123 v124 v125))) ke0
def l61_40 (cp : CP) (n : Nat) : Nat → SSpan → (List SSpan) → Int → Int → Int → Int → (List SSpan) → Int → ((List SSpan) → Int → Option R) → Option R
  | 0, _, _, _, _, _, _, _, _, _ => none
  | m + 1, p1, v102, v103, v104, v105, v106, v107, v108, ke0 =>
    s61_38 cp n p1 v102 v103 v104 v105 v106 v107 v108 (fun v126 v127 v128 => l61_40 cp n m p1 v102 v103 v104 v105 v126 v127 v128 ke0) (ke0 v107 v108)
def s61_41 (cp : CP) (n : Nat) (p1 : SSpan) (v102 : (List SSpan)) (v103 v104 v105 : Int) (ke0 : (List SSpan) → Int → Option R) : Option R :=
  l61_40 cp n n p1 v102 v103 v104 v105 0 [] p1.xFrom ke0
def s61_43 (cp : CP) (n : Nat) (p1 : SSpan) (v102 : (List SSpan)) (v103 v104 v105 : Int) (kn : (List SSpan) → Int → Option R) : Option R :=
  s61_41 cp n p1 v102 v103 v104 v105 (fun v129 v130 => (kn v129 v130))
def s61_45 (cp : CP) (n : Nat) (p1 : SSpan) (v102 : (List SSpan)) (v103 v104 : Int) (kn : (List SSpan) → Int → Option R) : Option R :=
  s61_8 cp n p1 v102 v103 v104 (fun v105 => s61_43 cp n p1 v102 v103 v104 v105 (fun v131 v132 => (kn v131 v132)))
def s61_48 (cp : CP) (n : Nat) (p1 : SSpan) (v102 : (List SSpan)) (v103 v104 : Int) (kn : (List SSpan) → Int → Option R) : Option R :=
  s61_45 cp n p1 v102 v103 v104 (fun v133 v134 => (kn v133 v134))
def s61_50 (cp : CP) (n : Nat) (p1 : SSpan) (v102 : (List SSpan)) (v103 v104 : Int) (kn : (List SSpan) → Int → Option R) : Option R :=
  s61_48 cp n p1 v102 v103 v104 (fun v135 v136 => (kn v135 v136))
def s61_52 (cp : CP) (n : Nat) (p0 : (List SSpan)) (p1 : SSpan) (kn : (List SSpan) → Int → Option R) : Option R :=
  s61_4 cp n p0 p1 (fun v102 v103 v104 => s61_50 cp n p1 v102 v103 v104 (fun v137 v138 => (kn v137 v138)))
def s61_53 (cp : CP) (n : Nat) (p1 : SSpan) (v139 : (List SSpan)) (v140 : Int) (kr : (List SSpan) → Option R) : Option R :=
  cond (decide (v140 < p1.xTo)) (cond (cp (v139.length + [(SSpan.mk v140 p1.xTo)].length) 16) (kr (v139 ++ [(SSpan.mk v140 p1.xTo)])) (none)) (kr v139)
def s61_56 (cp : CP) (n : Nat) (p0 : (List SSpan)) (p1 : SSpan) (kr : (List SSpan) → Option R) : Option R :=
  s61_52 cp n p0 p1 (fun v139 v140 => s61_53 cp n p1 v139 v140 (fun v141 => (kr v141)))
def s61_58 (cp : CP) (n : Nat) (p0 : (List SSpan)) (p1 : SSpan) (kr : (List SSpan) → Option R) : Option R :=
  s61_1 cp n p0 p1 (s61_56 cp n p0 p1 (fun v142 => (kr v142))) (kr [])
def G61 (cp : CP) : Nat → (List SSpan) → SSpan → ((List SSpan) → Option R) → Option R
  | 0, _, _, _ => none
  | n + 1, p0, p1, k =>
    s61_58 cp n p0 p1 (fun v143 => k v143)
/-! tideway/recv.put$1 -/
def G74 (cp : CP) : Nat → SPiece → Int → (Int → Option R) → Option R
  | 0, _, _, _ => none
  | n + 1, p0, p1, k =>
    k (wr .i64 (p0.xFrom - p1))
/-! slices.BinarySearchFunc[[]tideway/api.Piece,tideway/api.Piece,int] -/
def s1032_1 (cp : CP) (n : Nat) (p0 : (List SPiece)) (p1 : Int) (kn : Int → Option R) : Option R :=
  kn (p0.length : Int)
def s1032_3 (cp : CP) (n : Nat) (p0 : (List SPiece)) (p1 v147 v148 v149 : Int) (kn : Int → Int → Option R) (ke0 : Option R) : Option R :=
  cond (decide (v148 < v149)) (cond (decide (0 ≤ wr .i64 (shr .u64 (wr .u64 (wr .i64 (v148 + v149))) 1))) (cond (decide (wr .i64 (shr .u64 (wr .u64 (wr .i64 (v148 + v149))) 1) < (p0.length : Int))) (G74 cp n (p0.getD (Int.toNat (wr .i64 (shr .u64 (wr .u64 (wr .i64 (v148 + v149))) 1))) zPiece) p1 (fun r150 => cond (decide (r150 < 0)) (kn (wr .i64 ((wr .i64 (shr .u64 (wr .u64 (wr .i64 (v148 + v149))) 1)) + 1)) v149) (kn v148 (wr .i64 (shr .u64 (wr .u64 (wr .i64 (v148 + v149))) 1))))) (none)) (none)) (ke0)
def l1032_8 (cp : CP) (n : Nat) : Nat → (List SPiece) → Int → Int → Int → Int → (Int → Option R) → Option R
  | 0, _, _, _, _, _, _ => none
  | m + 1, p0, p1, v147, v148, v149, ke0 =>
    s1032_3 cp n p0 p1 v147 v148 v149 (fun v151 v152 => l1032_8 cp n m p0 p1 v147 v151 v152 ke0) (ke0 v148)
def s1032_9 (cp : CP) (n : Nat) (p0 : (List SPiece)) (p1 v147 : Int) (ke0 : Int → Option R) : Option R :=
  l1032_8 cp n n p0 p1 v147 0 v147 ke0
def s1032_11 (cp : CP) (n : Nat) (p0 : (List SPiece)) (p1 v147 : Int) (kn : Int → Option R) : Option R :=
  s1032_9 cp n p0 p1 v147 (fun v153 => (kn v153))
def s1032_12 (cp : CP) (n : Nat) (p0 : (List SPiece)) (p1 v147 v154 : Int) (kr : Bool → Option R) : Option R :=
  cond (decide (v154 < v147)) (cond (decide (0 ≤ v154)) (cond (decide (v154 < (p0.length : Int))) (G74 cp n (p0.getD (Int.toNat v154) zPiece) p1 (fun r155 => kr (decide (r155 = 0)))) (none)) (none)) (kr false)
def s1032_15 (cp : CP) (n : Nat) (p0 : (List SPiece)) (p1 v147 : Int) (kr : Int → Bool → Option R) : Option R :=
  s1032_11 cp n p0 p1 v147 (fun v154 => s1032_12 cp n p0 p1 v147 v154 (fun v156 => (kr v154 v156)))
def s1032_17 (cp : CP) (n : Nat) (p0 : (List SPiece)) (p1 : Int) (kr : Int → Bool → Option R) : Option R :=
  s1032_1 cp n p0 p1 (fun v147 => s1032_15 cp n p0 p1 v147 (fun v157 v158 => (kr v157 v158)))
def G1032 (cp : CP) : Nat → (List SPiece) → Int → (Int → Bool → Option R) → Option R
  | 0, _, _, _ => none
  | n + 1, p0, p1, k =>
    s1032_17 cp n p0 p1 (fun v159 v160 => k v159 v160)
/-! slices.Clone[[]tideway/api.Piece,tideway/api.Piece] -/
def G1034 (cp : CP) : Nat → (List SPiece) → ((List SPiece) → Option R) → Option R
  | 0, _, _ => none
  | n + 1, p0, k => cond (cp (0 + p0.length) 32) (k p0) none
/-! slices.Insert[[]tideway/api.Piece,tideway/api.Piece] -/
def G75 (cp : CP) : Nat → (List SPiece) → Int → SPiece → ((List SPiece) → Option R) → Option R
  | 0, _, _, _, _ => none
  | n + 1, p0, p1, p2, k => cond (cp (p0.length + 1) 32) (cond (decide (0 ≤ p1)) (cond (decide (p1 ≤ (p0.length : Int))) (k (insL p0 (Int.toNat p1) p2)) none) none) none
/-! slices.Clip[[]byte,byte] -/
def G77 (cp : CP) : Nat → (List Int) → ((List Int) → Option R) → Option R
  | 0, _, _ => none
  | n + 1, p0, k =>
    cond (decide (0 ≤ (p0.length : Int))) (cond (decide ((p0.length : Int) ≤ (p0.length : Int))) (cond (decide ((p0.length : Int) = (p0.length : Int))) (k (p0.take (Int.toNat (p0.length : Int)))) (none)) (none)) (none)
/-! tideway/recv.put -/
def s60_1 (cp : CP) (n : Nat) (p0 : (List SPiece)) (p1 : SPiece) (kn : (List SPiece) → Option R) : Option R :=
  G1032 cp n p0 p1.xFrom (fun r173 r174 => G1034 cp n p0 (fun r175 => G52 cp n p1.xData (fun r176 => G75 cp n r175 r173 (SPiece.mk p1.xFrom r176) (fun r177 => kn r177))))
def s60_3 (cp : CP) (n : Nat) (v178 : (List SPiece)) (kn : Int → Option R) : Option R :=
  kn (v178.length : Int)
def s60_5 (cp : CP) (n : Nat) (v178 : (List SPiece)) (v179 : Int) (v180 : (List SPiece)) (v181 : Int) (kn : (List SPiece) → Int → Option R) (ke0 : Option R) : Option R :=
  cond (decide (v181 < v179)) (cond (decide (0 ≤ v181)) (cond (decide (v181 < (v178.length : Int))) (cond (decide (0 < (v180.length : Int))) (cond (decide (0 ≤ wr .i64 ((v180.length : Int) - 1))) (cond (decide (wr .i64 ((v180.length : Int) - 1) < (v180.length : Int))) (cond (decide ((Int.toNat (wr .i64 ((v180.length : Int) - 1))) < v180.length)) (G71 cp n (v180.getD (Int.toNat (wr .i64 ((v180.length : Int) - 1))) zPiece) (fun r182 => cond (decide (r182.xTo = ((v178.getD (Int.toNat v181) zPiece).xFrom))) (cond (decide (0 ≤ wr .i64 ((v180.length : Int) - 1))) (cond (decide (wr .i64 ((v180.length : Int) - 1) < (v180.length : Int))) (cond (decide ((Int.toNat (wr .i64 ((v180.length : Int) - 1))) < v180.length)) (G77 cp n ((v180.getD (Int.toNat (wr .i64 ((v180.length : Int) - 1))) zPiece).xData) (fun r183 => cond (cp (r183.length + ((v178.getD (Int.toNat v181) zPiece).xData).length) 1) (cond (decide (0 ≤ wr .i64 ((v180.length : Int) - 1))) (cond (decide (wr .i64 ((v180.length : Int) - 1) < (v180.length : Int))) (cond (decide ((Int.toNat (wr .i64 ((v180.length : Int) - 1))) < v180.length)) (kn (v180.set (Int.toNat (wr .i64 ((v180.length : Int) - 1))) (SPiece.mk ((v180.getD (Int.toNat (wr .i64 ((v180.length : Int) - 1))) zPiece).xFrom) (r183 ++ ((v178.getD (Int.toNat v181) zPiece).xData)))) (wr .i64 (v181 + 1))) (none)) (none)) (none)) (none))) (none)) (none)) (none)) (cond (cp (v180.length + [(v178.getD (Int.toNat v181) zPiece)].length) 32) (kn (v180 ++ [(v178.getD (Int.toNat v181) zPiece)]) (wr .i64 (v181 + 1))) (none)))) (none)) (none)) (none)) (cond (cp (v180.length + [(v178.getD (Int.toNat v181) zPiece)].length) 32) (kn (v180 ++ [(v178.getD (Int.toNat v181) zPiece)]) (wr .i64 (v181 + 1))) (none))) (none)) (none)) (ke0)
def l60_10 (cp : CP) (n : Nat) : Nat → (List SPiece) → Int → (List SPiece) → Int → ((List SPiece) → Option R) → Option R
  | 0, _, _, _, _, _ => none
  | m + 1, v178, v179, v180, v181, ke0 =>
    s60_5 cp n v178 v179 v180 v181 (fun v184 v185 => l60_10 cp n m v178 v179 v184 v185 ke0) (ke0 v180)
def s60_11 (cp : CP) (n : Nat) (v178 : (List SPiece)) (v179 : Int) (ke0 : (List SPiece) → Option R) : Option R :=
  l60_10 cp n n v178 v179 [] 0 ke0
def s60_13 (cp : CP) (n : Nat) (v178 : (List SPiece)) (v179 : Int) (kn : (List SPiece) → Option R) : Option R :=
  s60_11 cp n v178 v179 (fun v186 => (kn v186))
def s60_15 (cp : CP) (n : Nat) (v178 : (List SPiece)) (kn : (List SPiece) → Option R) : Option R :=
  s60_3 cp n v178 (fun v179 => s60_13 cp n v178 v179 (fun v187 => (kn v187)))
def s60_16 (cp : CP) (n : Nat) (v188 : (List SPiece)) (kr : Option R) : Option R :=
  kr
def s60_19 (cp : CP) (n : Nat) (v178 : (List SPiece)) (kr : (List SPiece) → Option R) : Option R :=
  s60_15 cp n v178 (fun v188 => s60_16 cp n v188 (kr v188))
def s60_21 (cp : CP) (n : Nat) (p0 : (List SPiece)) (p1 : SPiece) (kr : (List SPiece) → Option R) : Option R :=
  s60_1 cp n p0 p1 (fun v178 => s60_19 cp n v178 (fun v189 => (kr v189)))
def G60 (cp : CP) : Nat → (List SPiece) → SPiece → ((List SPiece) → Option R) → Option R
  | 0, _, _, _ => none
  | n + 1, p0, p1, k =>
    s60_21 cp n p0 p1 (fun v190 => k v190)
/-! tideway/recv.take$1 -/
def G1030 (cp : CP) : Nat → SSpan → SRecv → Int → (List Int) → Bool → (SRecv → Int → (List Int) → Bool → Option R) → Option R
  | 0, _, _, _, _, _, _ => none
  | n + 1, p0, q0, q1, q2, q3, k =>
    cond (decide (0 ≤ wr .i64 (p0.xFrom - q1))) (cond (decide (wr .i64 (p0.xFrom - q1) ≤ wr .i64 (p0.xTo - q1))) (cond (decide (wr .i64 (p0.xTo - q1) ≤ (q2.length : Int))) (G60 cp n q0.xLate (SPiece.mk p0.xFrom (List.take ((Int.toNat (wr .i64 (p0.xTo - q1))) - (Int.toNat (wr .i64 (p0.xFrom - q1)))) (q2.drop (Int.toNat (wr .i64 (p0.xFrom - q1)))))) (fun r191 => k (SRecv.mk q0.xNext q0.xUnread r191 q0.xCap q0.xShift q0.xEdge q0.xRecent q0.xStamps q0.xSacks q0.xFin q0.xDone q0.xFirst q0.xIrs q0.xOwn q0.xStamp) q1 q2 true)) (none)) (none)) (none)
/-! tideway/recv.take -/
def s34_1 (cp : CP) (n : Nat) (p0 : SRecv) (p1 : Int) (p2 : (List Int)) (kn : Int → Option R) : Option R :=
  G53 cp n p0 (fun r174 => cond (decide (0 ≤ p0.xFin)) (kn (mn (mn (wr .i64 (p1 + (p2.length : Int))) r174) p0.xFin)) (kn (mn (wr .i64 (p1 + (p2.length : Int))) r174)))
def s34_3 (cp : CP) (n : Nat) (p0 : SRecv) (p1 : Int) (p2 : (List Int)) (v175 : Int) (kn : SRecv → Option R) : Option R :=
  G55 cp n p0 (fun r176 => kn r176)
def s34_7 (cp : CP) (n : Nat) (p0 : SRecv) (p1 : Int) (p2 : (List Int)) (v175 : Int) (v177 : SRecv) (kn : Int → Option R) : Option R :=
  kn (v177.xLate.length : Int)
def s34_9 (cp : CP) (n : Nat) (p0 : SRecv) (p1 : Int) (p2 : (List Int)) (v175 : Int) (v177 : SRecv) (v178 v179 : Int) (v180 : (List SSpan)) (kn : Option R) (ke0 : Option R) : Option R :=
  cond (decide (v179 < v178)) (kn) (ke0)
def s34_12 (cp : CP) (n : Nat) (p0 : SRecv) (p1 : Int) (p2 : (List Int)) (v175 : Int) (v177 : SRecv) (v178 v179 : Int) (v180 : (List SSpan)) (kn : Int → (List Int) → Option R) : Option R :=
  cond (decide (0 ≤ v179)) (cond (decide (v179 < (v177.xLate.length : Int))) (kn ((v177.xLate.getD (Int.toNat v179) zPiece).xFrom) ((v177.xLate.getD (Int.toNat v179) zPiece).xData)) (none)) (none)
def s34_14 (cp : CP) (n : Nat) (p0 : SRecv) (p1 : Int) (p2 : (List Int)) (v175 : Int) (v177 : SRecv) (v178 v179 : Int) (v180 : (List SSpan)) (v181 : Int) (v182 : (List Int)) (ka : Int → Int → Option R) : Option R :=
  G71 cp n (SPiece.mk v181 v182) (fun r183 => ka r183.xFrom r183.xTo)
def s34_16 (cp : CP) (n : Nat) (p0 : SRecv) (p1 : Int) (p2 : (List Int)) (v175 : Int) (v177 : SRecv) (v180 : (List SSpan)) (v181 : Int) (v182 : (List Int)) (v184 v185 : Int) (kn : (List SSpan) → Option R) : Option R :=
  cond (cp (v180.length + [(SSpan.mk v184 v185)].length) 16) (kn (v180 ++ [(SSpan.mk v184 v185)])) (none)
def s34_22 (cp : CP) (n : Nat) (p0 : SRecv) (p1 : Int) (p2 : (List Int)) (v175 : Int) (v177 : SRecv) (v178 v179 : Int) (v180 : (List SSpan)) (v181 : Int) (v182 : (List Int)) (kn : (List SSpan) → Option R) : Option R :=
  s34_14 cp n p0 p1 p2 v175 v177 v178 v179 v180 v181 v182 (fun v184 v185 => s34_16 cp n p0 p1 p2 v175 v177 v180 v181 v182 v184 v185 (fun v186 => kn v186))
def s34_23 (cp : CP) (n : Nat) (p0 : SRecv) (p1 : Int) (p2 : (List Int)) (v175 : Int) (v177 : SRecv) (v178 v179 : Int) (v187 : (List SSpan)) (kn : Option R) : Option R :=
  kn
def s34_26 (cp : CP) (n : Nat) (p0 : SRecv) (p1 : Int) (p2 : (List Int)) (v175 : Int) (v177 : SRecv) (v178 v179 : Int) (v180 : (List SSpan)) (v181 : Int) (v182 : (List Int)) (kn : (List SSpan) → Option R) : Option R :=
  s34_22 cp n p0 p1 p2 v175 v177 v178 v179 v180 v181 v182 (fun v187 => s34_23 cp n p0 p1 p2 v175 v177 v178 v179 v187 (kn v187))
def s34_28 (cp : CP) (n : Nat) (p0 : SRecv) (p1 : Int) (p2 : (List Int)) (v175 : Int) (v177 : SRecv) (v178 v179 : Int) (v180 : (List SSpan)) (kn : (List SSpan) → Option R) : Option R :=
  s34_12 cp n p0 p1 p2 v175 v177 v178 v179 v180 (fun v181 v182 => s34_26 cp n p0 p1 p2 v175 v177 v178 v179 v180 v181 v182 (fun v188 => (kn v188)))
def s34_30 (cp : CP) (n : Nat) (p0 : SRecv) (p1 : Int) (p2 : (List Int)) (v175 : Int) (v177 : SRecv) (v178 v179 : Int) (v180 : (List SSpan)) (kn : (List SSpan) → Option R) : Option R :=
  s34_28 cp n p0 p1 p2 v175 v177 v178 v179 v180 (fun v189 => (kn v189))
def s34_31 (cp : CP) (n : Nat) (p0 : SRecv) (p1 : Int) (p2 : (List Int)) (v175 : Int) (v177 : SRecv) (v178 v179 : Int) (v190 : (List SSpan)) (kn : Int → Option R) : Option R :=
  kn (wr .i64 (v179 + 1))
def s34_34 (cp : CP) (n : Nat) (p0 : SRecv) (p1 : Int) (p2 : (List Int)) (v175 : Int) (v177 : SRecv) (v178 v179 : Int) (v180 : (List SSpan)) (kn : Int → (List SSpan) → Option R) : Option R :=
  s34_30 cp n p0 p1 p2 v175 v177 v178 v179 v180 (fun v190 => s34_31 cp n p0 p1 p2 v175 v177 v178 v179 v190 (fun v191 => (kn v191 v190)))
def s34_36 (cp : CP) (n : Nat) (p0 : SRecv) (p1 : Int) (p2 : (List Int)) (v175 : Int) (v177 : SRecv) (v178 v179 : Int) (v180 : (List SSpan)) (kn : Int → (List SSpan) → Option R) (ke0 : Option R) : Option R :=
  s34_9 cp n p0 p1 p2 v175 v177 v178 v179 v180 (s34_34 cp n p0 p1 p2 v175 v177 v178 v179 v180 (fun v192 v193 => (kn v192 v193))) ke0
def l34_38 (cp : CP) (n : Nat) : Nat → SRecv → Int → (List Int) → Int → SRecv → Int → Int → (List SSpan) → ((List SSpan) → Option R) → Option R
  | 0, _, _, _, _, _, _, _, _, _ => none
  | m + 1, p0, p1, p2, v175, v177, v178, v179, v180, ke0 =>
    s34_36 cp n p0 p1 p2 v175 v177 v178 v179 v180 (fun v194 v195 => l34_38 cp n m p0 p1 p2 v175 v177 v178 v194 v195 ke0) (ke0 v180)
def s34_39 (cp : CP) (n : Nat) (p0 : SRecv) (p1 : Int) (p2 : (List Int)) (v175 : Int) (v177 : SRecv) (v178 : Int) (ke0 : (List SSpan) → Option R) : Option R :=
  l34_38 cp n n p0 p1 p2 v175 v177 v178 0 [] ke0
def s34_41 (cp : CP) (n : Nat) (p0 : SRecv) (p1 : Int) (p2 : (List Int)) (v175 : Int) (v177 : SRecv) (v178 : Int) (kn : (List SSpan) → Option R) : Option R :=
  s34_39 cp n p0 p1 p2 v175 v177 v178 (fun v196 => (kn v196))
def s34_43 (cp : CP) (n : Nat) (p0 : SRecv) (p1 : Int) (p2 : (List Int)) (v175 : Int) (v177 : SRecv) (kn : (List SSpan) → Option R) : Option R :=
  s34_7 cp n p0 p1 p2 v175 v177 (fun v178 => s34_41 cp n p0 p1 p2 v175 v177 v178 (fun v197 => (kn v197)))
def s34_46 (cp : CP) (n : Nat) (p0 : SRecv) (p1 : Int) (p2 : (List Int)) (v175 : Int) (v177 : SRecv) (kn : (List SSpan) → Option R) : Option R :=
  s34_43 cp n p0 p1 p2 v175 v177 (fun v198 => (kn v198))
def s34_48 (cp : CP) (n : Nat) (p0 : SRecv) (p1 : Int) (p2 : (List Int)) (v175 : Int) (v177 : SRecv) (kn : (List SSpan) → Option R) : Option R :=
  s34_46 cp n p0 p1 p2 v175 v177 (fun v199 => (kn v199))
def s34_50 (cp : CP) (n : Nat) (p0 : SRecv) (p1 : Int) (p2 : (List Int)) (v175 : Int) (kn : (List SSpan) → Option R) : Option R :=
  s34_3 cp n p0 p1 p2 v175 (fun v177 => s34_48 cp n p0 p1 p2 v175 v177 (fun v200 => (kn v200)))
def s34_51 (cp : CP) (n : Nat) (p0 : SRecv) (p1 : Int) (p2 : (List Int)) (v175 : Int) (v201 : (List SSpan)) (kn : Option R) : Option R :=
  kn
def s34_53 (cp : CP) (n : Nat) (p0 : SRecv) (p1 : Int) (p2 : (List Int)) (v175 : Int) (v201 : (List SSpan)) (kn : Int → Bool → Option R) : Option R :=
  kn (mx p1 p0.xNext) (decide ((mx p1 p0.xNext) < v175))
def s34_55 (cp : CP) (n : Nat) (p0 : SRecv) (p1 : Int) (p2 : (List Int)) (v175 : Int) (v201 : (List SSpan)) (v202 : Int) (v203 : Bool) (kn : (List SSpan) → Int → Option R) : Option R :=
  G61 cp n v201 (SSpan.mk v202 v175) (fun r204 => kn r204 (r204.length : Int))
def s34_57 (cp : CP) (n : Nat) (v205 : (List SSpan)) (v206 v207 : Int) (v208 : SRecv) (v209 : Int) (v210 : (List Int)) (v211 : Bool) (kn : Int → SRecv → Int → (List Int) → Bool → Option R) (ke2 : Option R) : Option R :=
  cond (decide (v207 < v206)) (cond (decide (0 ≤ v207)) (cond (decide (v207 < (v205.length : Int))) (G1030 cp n (v205.getD (Int.toNat v207) zSpan) v208 v209 v210 v211 (fun r212 r213 r214 r215 => kn (wr .i64 (v207 + 1)) r212 r213 r214 r215)) (none)) (none)) (ke2)
def l34_62 (cp : CP) (n : Nat) : Nat → (List SSpan) → Int → Int → SRecv → Int → (List Int) → Bool → (SRecv → Bool → Option R) → Option R
  | 0, _, _, _, _, _, _, _, _ => none
  | m + 1, v205, v206, v207, v208, v209, v210, v211, ke2 =>
    s34_57 cp n v205 v206 v207 v208 v209 v210 v211 (fun v216 v217 v218 v219 v220 => l34_62 cp n m v205 v206 v216 v217 v218 v219 v220 ke2) (ke2 v208 v211)
def s34_63 (cp : CP) (n : Nat) (p0 : SRecv) (p1 : Int) (p2 : (List Int)) (v205 : (List SSpan)) (v206 : Int) (ke2 : SRecv → Bool → Option R) : Option R :=
  l34_62 cp n n v205 v206 0 p0 p1 p2 false ke2
def s34_65 (cp : CP) (n : Nat) (p0 : SRecv) (p1 : Int) (p2 : (List Int)) (v205 : (List SSpan)) (v206 : Int) (kn : SRecv → Bool → Option R) : Option R :=
  s34_63 cp n p0 p1 p2 v205 v206 (fun v221 v222 => (kn v221 v222))
def s34_67 (cp : CP) (n : Nat) (p0 : SRecv) (p1 : Int) (p2 : (List Int)) (v175 : Int) (v201 : (List SSpan)) (v202 : Int) (v203 : Bool) (kn : SRecv → Bool → Option R) : Option R :=
  s34_55 cp n p0 p1 p2 v175 v201 v202 v203 (fun v205 v206 => s34_65 cp n p0 p1 p2 v205 v206 (fun v223 v224 => (kn v223 v224)))
def s34_68 (cp : CP) (n : Nat) (p0 : SRecv) (p1 : Int) (p2 : (List Int)) (v175 : Int) (v201 : (List SSpan)) (v202 : Int) (v203 : Bool) (kn : Option R) : Option R :=
  kn
def s34_69 (cp : CP) (n : Nat) (p0 : SRecv) (p1 : Int) (p2 : (List Int)) (v175 : Int) (v201 : (List SSpan)) (v202 : Int) (v203 : Bool) (kn : SRecv → Bool → Option R) : Option R :=
  cond (v203) (s34_67 cp n p0 p1 p2 v175 v201 v202 v203 (fun v225 v226 => (kn v225 v226))) (s34_68 cp n p0 p1 p2 v175 v201 v202 v203 (kn p0 false))
def s34_72 (cp : CP) (n : Nat) (p0 : SRecv) (p1 : Int) (p2 : (List Int)) (v175 : Int) (v201 : (List SSpan)) (kn : SRecv → Bool → Option R) : Option R :=
  s34_53 cp n p0 p1 p2 v175 v201 (fun v202 v203 => s34_69 cp n p0 p1 p2 v175 v201 v202 v203 (fun v227 v228 => (kn v227 v228)))
def s34_73 (cp : CP) (n : Nat) (v230 : Bool) (v231 : SRecv) (kn : SRecv → Option R) (ke4 : Option R) : Option R :=
  cond (decide (0 < (v231.xLate.length : Int))) (cond (decide (0 < (v231.xLate.length : Int))) (cond (decide (((v231.xLate.getD 0 zPiece).xFrom) = v231.xNext)) (cond (decide (0 < (v231.xLate.length : Int))) (cond (cp (v231.xUnread.length + ((v231.xLate.getD 0 zPiece).xData).length) 1) (cond (decide (0 < (v231.xLate.length : Int))) (cond (decide (1 ≤ (v231.xLate.length : Int))) (kn (SRecv.mk (wr .i64 (v231.xNext + (((v231.xLate.getD 0 zPiece).xData).length : Int))) (v231.xUnread ++ ((v231.xLate.getD 0 zPiece).xData)) (List.take (v231.xLate.length - 1) (v231.xLate.drop 1)) v231.xCap v231.xShift v231.xEdge v231.xRecent v231.xStamps v231.xSacks v231.xFin v231.xDone v231.xFirst v231.xIrs v231.xOwn v231.xStamp)) (none)) (none)) (none)) (none)) (ke4)) (none)) (ke4)
def l34_77 (cp : CP) (n : Nat) : Nat → Bool → SRecv → (SRecv → Option R) → Option R
  | 0, _, _, _ => none
  | m + 1, v230, v231, ke4 =>
    s34_73 cp n v230 v231 (fun v232 => l34_77 cp n m v230 v232 ke4) (ke4 v231)
def s34_78 (cp : CP) (n : Nat) (v229 : SRecv) (v230 : Bool) (ke4 : SRecv → Option R) : Option R :=
  l34_77 cp n n v230 v229 ke4
def s34_80 (cp : CP) (n : Nat) (v229 : SRecv) (v230 : Bool) (ke4 : SRecv → Option R) : Option R :=
  s34_78 cp n v229 v230 ke4
def s34_82 (cp : CP) (n : Nat) (v229 : SRecv) (v230 : Bool) (kn : SRecv → Option R) : Option R :=
  s34_80 cp n v229 v230 (fun v233 => (kn v233))
def s34_83 (cp : CP) (n : Nat) (v230 : Bool) (v234 : SRecv) (kr : Option R) : Option R :=
  kr
def s34_86 (cp : CP) (n : Nat) (v229 : SRecv) (v230 : Bool) (kr : SRecv → Option R) : Option R :=
  s34_82 cp n v229 v230 (fun v234 => s34_83 cp n v230 v234 (kr v234))
def s34_88 (cp : CP) (n : Nat) (p0 : SRecv) (p1 : Int) (p2 : (List Int)) (v175 : Int) (v201 : (List SSpan)) (kr : Bool → SRecv → Option R) : Option R :=
  s34_72 cp n p0 p1 p2 v175 v201 (fun v229 v230 => s34_86 cp n v229 v230 (fun v235 => (kr v230 v235)))
def s34_90 (cp : CP) (n : Nat) (p0 : SRecv) (p1 : Int) (p2 : (List Int)) (v175 : Int) (v201 : (List SSpan)) (kr : Bool → SRecv → Option R) : Option R :=
  s34_51 cp n p0 p1 p2 v175 v201 (s34_88 cp n p0 p1 p2 v175 v201 (fun v236 v237 => (kr v236 v237)))
def s34_92 (cp : CP) (n : Nat) (p0 : SRecv) (p1 : Int) (p2 : (List Int)) (v175 : Int) (kr : Bool → SRecv → Option R) : Option R :=
  s34_50 cp n p0 p1 p2 v175 (fun v201 => s34_90 cp n p0 p1 p2 v175 v201 (fun v238 v239 => (kr v238 v239)))
def s34_94 (cp : CP) (n : Nat) (p0 : SRecv) (p1 : Int) (p2 : (List Int)) (kr : Bool → SRecv → Option R) : Option R :=
  s34_1 cp n p0 p1 p2 (fun v175 => s34_92 cp n p0 p1 p2 v175 (fun v240 v241 => (kr v240 v241)))
def G34 (cp : CP) : Nat → SRecv → Int → (List Int) → (SRecv → Bool → Option R) → Option R
  | 0, _, _, _, _ => none
  | n + 1, p0, p1, p2, k =>
    s34_94 cp n p0 p1 p2 (fun v242 v243 => k v243 v242)
/-! tideway/recv.firsts$1 -/
def G1039 (cp : CP) : Nat → SSpan → SSpan → (Bool → SSpan → Option R) → Option R
  | 0, _, _, _ => none
  | n + 1, p0, q0, k =>
    cond (decide (p0.xFrom ≤ q0.xFrom)) (k (decide (q0.xTo ≤ p0.xTo)) q0) (k false q0)
/-! slices.IndexFunc[[]tideway/api.Span,tideway/api.Span] -/
def s1038_1 (cp : CP) (n : Nat) (p0 : (List SSpan)) (q0 : SSpan) (kn : Option R) : Option R :=
  kn
def s1038_3 (cp : CP) (n : Nat) (p0 : (List SSpan)) (q0 : SSpan) (kn : Int → Option R) : Option R :=
  kn (p0.length : Int)
def s1038_5 (cp : CP) (n : Nat) (p0 : (List SSpan)) (v261 v262 v263 v264 : Int) (kn : Int → Int → Int → Option R) (kr : Int → Int → Option R) (ke0 : Option R) : Option R :=
  cond (decide (v262 < v261)) (cond (decide (0 ≤ v262)) (cond (decide (v262 < (p0.length : Int))) (G1039 cp n (p0.getD (Int.toNat v262) zSpan) (SSpan.mk v263 v264) (fun r265 r266 => cond (r265) (kr r266.xFrom r266.xTo) (kn (wr .i64 (v262 + 1)) r266.xFrom r266.xTo))) (none)) (none)) (ke0)
def l1038_12 (cp : CP) (n : Nat) : Nat → (List SSpan) → Int → Int → Int → Int → (Int → Int → Int → Option R) → (Int → Int → Option R) → Option R
  | 0, _, _, _, _, _, _, _ => none
  | m + 1, p0, v261, v262, v263, v264, kr, ke0 =>
    s1038_5 cp n p0 v261 v262 v263 v264 (fun v267 v268 v269 => l1038_12 cp n m p0 v261 v267 v268 v269 kr ke0) (fun v270 v271 => (kr v262 v270 v271)) (ke0 v263 v264)
def s1038_13 (cp : CP) (n : Nat) (p0 : (List SSpan)) (q0 : SSpan) (v261 : Int) (kr : Int → Int → Int → Option R) (ke0 : Int → Int → Option R) : Option R :=
  l1038_12 cp n n p0 v261 0 q0.xFrom q0.xTo kr ke0
def s1038_16 (cp : CP) (n : Nat) (p0 : (List SSpan)) (q0 : SSpan) (v261 : Int) (kn : Int → Int → Option R) (kr : Int → Int → Int → Option R) : Option R :=
  s1038_13 cp n p0 q0 v261 (fun v272 v273 v274 => (kr v272 v273 v274)) (fun v275 v276 => (kn v275 v276))
def s1038_19 (cp : CP) (n : Nat) (p0 : (List SSpan)) (q0 : SSpan) (kn : Int → Int → Option R) (kr : Int → Int → Int → Option R) : Option R :=
  s1038_3 cp n p0 q0 (fun v261 => s1038_16 cp n p0 q0 v261 (fun v277 v278 => (kn v277 v278)) (fun v279 v280 v281 => (kr v279 v280 v281)))
def s1038_20 (cp : CP) (n : Nat) (v282 v283 : Int) (kr : Option R) : Option R :=
  kr
def s1038_23 (cp : CP) (n : Nat) (p0 : (List SSpan)) (q0 : SSpan) (kr : Int → Int → Int → Option R) : Option R :=
  s1038_19 cp n p0 q0 (fun v282 v283 => s1038_20 cp n v282 v283 (kr (-1) v282 v283)) (fun v284 v285 v286 => (kr v284 v285 v286))
def s1038_25 (cp : CP) (n : Nat) (p0 : (List SSpan)) (q0 : SSpan) (kr : Int → Int → Int → Option R) : Option R :=
  s1038_1 cp n p0 q0 (s1038_23 cp n p0 q0 (fun v287 v288 v289 => (kr v287 v288 v289)))
def G1038 (cp : CP) : Nat → (List SSpan) → SSpan → (Int → SSpan → Option R) → Option R
  | 0, _, _, _ => none
  | n + 1, p0, q0, k =>
    s1038_25 cp n p0 q0 (fun v290 v291 v292 => k v290 (SSpan.mk v291 v292))
/-! tideway/recv.firsts -/
def s35_1 (cp : CP) (n : Nat) (p0 : SRecv) (p1 : Int) (p2 : (List Int)) (kn : (List SSpan) → Option R) : Option R :=
  G55 cp n p0 (fun r249 => G1006 cp n r249 (fun r250 r251 => kn r250))
def s35_3 (cp : CP) (n : Nat) (p0 : SRecv) (p1 : Int) (p2 : (List Int)) (v252 : (List SSpan)) (kn : Int → Option R) : Option R :=
  kn (wr .i64 ((v252.length : Int) - 1))
def s35_5 (cp : CP) (n : Nat) (p0 : SRecv) (p1 : Int) (p2 : (List Int)) (v252 : (List SSpan)) (v254 : Int) (kn : Int → Option R) (ke0 : (List SSpan) → Option R) : Option R :=
  cond (decide (0 ≤ v254)) (cond (decide (0 ≤ v254)) (cond (decide (v254 < (v252.length : Int))) (cond (decide (((v252.getD (Int.toNat v254) zSpan).xFrom) < (wr .i64 (p1 + (p2.length : Int))))) (cond (decide (0 ≤ v254)) (cond (decide (v254 < (v252.length : Int))) (cond (decide (p1 < ((v252.getD (Int.toNat v254) zSpan).xTo))) (cond (decide (0 < (p2.length : Int))) (cond (decide (0 ≤ v254)) (cond (decide (v254 < (v252.length : Int))) (cond (cp ([(v252.getD (Int.toNat v254) zSpan)].length + p0.xFirst.length) 16) (ke0 ([(v252.getD (Int.toNat v254) zSpan)] ++ p0.xFirst)) (none)) (none)) (none)) (kn (wr .i64 (v254 - 1)))) (kn (wr .i64 (v254 - 1)))) (none)) (none)) (kn (wr .i64 (v254 - 1)))) (none)) (none)) (ke0 p0.xFirst)
def l35_10 (cp : CP) (n : Nat) : Nat → SRecv → Int → (List Int) → (List SSpan) → Int → ((List SSpan) → Option R) → Option R
  | 0, _, _, _, _, _, _ => none
  | m + 1, p0, p1, p2, v252, v254, ke0 =>
    s35_5 cp n p0 p1 p2 v252 v254 (fun v255 => l35_10 cp n m p0 p1 p2 v252 v255 ke0) (fun v256 => (ke0 v256))
def s35_11 (cp : CP) (n : Nat) (p0 : SRecv) (p1 : Int) (p2 : (List Int)) (v252 : (List SSpan)) (v253 : Int) (ke0 : (List SSpan) → Option R) : Option R :=
  l35_10 cp n n p0 p1 p2 v252 v253 ke0
def s35_13 (cp : CP) (n : Nat) (p0 : SRecv) (p1 : Int) (p2 : (List Int)) (v252 : (List SSpan)) (v253 : Int) (kn : (List SSpan) → Option R) : Option R :=
  s35_11 cp n p0 p1 p2 v252 v253 (fun v257 => (kn v257))
def s35_15 (cp : CP) (n : Nat) (p0 : SRecv) (p1 : Int) (p2 : (List Int)) (v252 : (List SSpan)) (kn : (List SSpan) → Option R) : Option R :=
  s35_3 cp n p0 p1 p2 v252 (fun v253 => s35_13 cp n p0 p1 p2 v252 v253 (fun v258 => (kn v258)))
def s35_16 (cp : CP) (n : Nat) (v252 v259 : (List SSpan)) (kn : Option R) : Option R :=
  kn
def s35_18 (cp : CP) (n : Nat) (v252 v259 : (List SSpan)) (kn : Int → Option R) : Option R :=
  kn (v259.length : Int)
def s35_20 (cp : CP) (n : Nat) (v252 v259 : (List SSpan)) (v260 : Int) (v261 : (List SSpan)) (v262 : Int) (kn : (List SSpan) → Int → Option R) (ke2 : Option R) : Option R :=
  cond (decide (v262 < v260)) (cond (decide (0 ≤ v262)) (cond (decide (v262 < (v259.length : Int))) (G1038 cp n v252 (v259.getD (Int.toNat v262) zSpan) (fun r263 r264 => cond (decide (0 ≤ r263)) (cond (decide (0 ≤ r263)) (cond (decide (r263 < (v252.length : Int))) (G56 cp n v261 (v252.getD (Int.toNat r263) zSpan) (fun r265 => cond (!r265) (cond (decide (0 ≤ r263)) (cond (decide (r263 < (v252.length : Int))) (cond (cp (v261.length + [(v252.getD (Int.toNat r263) zSpan)].length) 16) (kn (v261 ++ [(v252.getD (Int.toNat r263) zSpan)]) (wr .i64 (v262 + 1))) (none)) (none)) (none)) (kn v261 (wr .i64 (v262 + 1))))) (none)) (none)) (kn v261 (wr .i64 (v262 + 1))))) (none)) (none)) (ke2)
def l35_25 (cp : CP) (n : Nat) : Nat → (List SSpan) → (List SSpan) → Int → (List SSpan) → Int → ((List SSpan) → Option R) → Option R
  | 0, _, _, _, _, _, _ => none
  | m + 1, v252, v259, v260, v261, v262, ke2 =>
    s35_20 cp n v252 v259 v260 v261 v262 (fun v266 v267 => l35_25 cp n m v252 v259 v260 v266 v267 ke2) (ke2 v261)
def s35_26 (cp : CP) (n : Nat) (v252 v259 : (List SSpan)) (v260 : Int) (ke2 : (List SSpan) → Option R) : Option R :=
  l35_25 cp n n v252 v259 v260 [] 0 ke2
def s35_28 (cp : CP) (n : Nat) (v252 v259 : (List SSpan)) (v260 : Int) (kn : (List SSpan) → Option R) : Option R :=
  s35_26 cp n v252 v259 v260 (fun v268 => (kn v268))
def s35_30 (cp : CP) (n : Nat) (v252 v259 : (List SSpan)) (kn : (List SSpan) → Option R) : Option R :=
  s35_18 cp n v252 v259 (fun v260 => s35_28 cp n v252 v259 v260 (fun v269 => (kn v269)))
def s35_31 (cp : CP) (n : Nat) (v270 : (List SSpan)) (kr : Option R) : Option R :=
  kr
def s35_34 (cp : CP) (n : Nat) (v252 v259 : (List SSpan)) (kr : (List SSpan) → Option R) : Option R :=
  s35_30 cp n v252 v259 (fun v270 => s35_31 cp n v270 (kr v270))
def s35_36 (cp : CP) (n : Nat) (v252 v259 : (List SSpan)) (kr : (List SSpan) → Option R) : Option R :=
  s35_16 cp n v252 v259 (s35_34 cp n v252 v259 (fun v271 => (kr v271)))
def s35_38 (cp : CP) (n : Nat) (p0 : SRecv) (p1 : Int) (p2 : (List Int)) (v252 : (List SSpan)) (kr : (List SSpan) → Option R) : Option R :=
  s35_15 cp n p0 p1 p2 v252 (fun v259 => s35_36 cp n v252 v259 (fun v272 => (kr v272)))
def s35_40 (cp : CP) (n : Nat) (p0 : SRecv) (p1 : Int) (p2 : (List Int)) (kr : (List SSpan) → Option R) : Option R :=
  s35_1 cp n p0 p1 p2 (fun v252 => s35_38 cp n p0 p1 p2 v252 (fun v273 => (kr v273)))
def G35 (cp : CP) : Nat → SRecv → Int → (List Int) → ((List SSpan) → Option R) → Option R
  | 0, _, _, _, _ => none
  | n + 1, p0, p1, p2, k =>
    s35_40 cp n p0 p1 p2 (fun v274 => k v274)
/-! tideway/recv.Input -/
def s12_1 (cp : CP) (n : Nat) (p0 : SRecv) (p1 : SSegment) (kn : Int → SRecv → Option R) (kr : Int → SRecv → Option R) : Option R :=
  G10 cp n p0 (fun r18 => cond (!decide (r18 = 0)) (kr r18 (SRecv.mk 0 [] [] 0 0 0 0 false false 0 false [] 0 0 false)) (G29 cp n p0 (fun r19 => cond (r19.xStamps) (cond (!p1.xStamped) (kr 0 r19) (G30 cp n r19.xNext (wr .u32 (p1.xSeq - r19.xIrs)) (fun r20 => kn r20 r19))) (G30 cp n r19.xNext (wr .u32 (p1.xSeq - r19.xIrs)) (fun r21 => kn r21 r19)))))
def s12_4 (cp : CP) (n : Nat) (p1 : SSegment) (v22 : Int) (v23 : SRecv) (kn : Option R) (kr : SRecv → SSegment → Option R) : Option R :=
  cond (v23.xStamps) (cond (v23.xStamp) (G31 cp n v23.xRecent p1.xVal (fun r26 => cond (decide (r26 < 0)) (G32 cp n v23 [] (fun r27 r28 => kr r27 r28)) (kn))) (kn)) (kn)
def s12_6 (cp : CP) (n : Nat) (p1 : SSegment) (v22 : Int) (v23 : SRecv) (kn : Int → Bool → Option R) : Option R :=
  cond (v23.xStamps) (cond (decide (v22 ≤ v23.xNext)) (kn p1.xVal true) (kn v23.xRecent v23.xStamp)) (kn v23.xRecent v23.xStamp)
def s12_8 (cp : CP) (n : Nat) (p1 : SSegment) (v22 : Int) (v23 : SRecv) (v31 : Int) (v32 : Bool) (kn : Bool → SRecv → Option R) : Option R :=
  cond (decide (0 < (bits .and .i64 p1.xFlags 1))) (G33 cp n (SRecv.mk v23.xNext v23.xUnread v23.xLate v23.xCap v23.xShift v23.xEdge v31 v23.xStamps v23.xSacks v23.xFin v23.xDone v23.xFirst v23.xIrs v23.xOwn v32) (wr .i64 (v22 + (p1.xData.length : Int))) (fun r39 => G34 cp n (SRecv.mk v23.xNext v23.xUnread v23.xLate v23.xCap v23.xShift v23.xEdge v31 v23.xStamps v23.xSacks r39 v23.xDone v23.xFirst v23.xIrs v23.xOwn v32) v22 p1.xData (fun r40 r41 => kn r41 (SRecv.mk r40.xNext r40.xUnread r40.xLate r40.xCap r40.xShift r40.xEdge r40.xRecent r40.xStamps r40.xSacks r40.xFin (decide (r40.xFin = r40.xNext)) r40.xFirst r40.xIrs r40.xOwn r40.xStamp)))) (G34 cp n (SRecv.mk v23.xNext v23.xUnread v23.xLate v23.xCap v23.xShift v23.xEdge v31 v23.xStamps v23.xSacks v23.xFin v23.xDone v23.xFirst v23.xIrs v23.xOwn v32) v22 p1.xData (fun r42 r43 => kn r43 (SRecv.mk r42.xNext r42.xUnread r42.xLate r42.xCap r42.xShift r42.xEdge r42.xRecent r42.xStamps r42.xSacks r42.xFin (decide (r42.xFin = r42.xNext)) r42.xFirst r42.xIrs r42.xOwn r42.xStamp)))
def s12_10 (cp : CP) (n : Nat) (p1 : SSegment) (v22 : Int) (v44 : Bool) (v45 : SRecv) (kn : (List SSpan) → Option R) : Option R :=
  G35 cp n v45 v22 p1.xData (fun r47 => kn r47)
def s12_12 (cp : CP) (n : Nat) (p1 : SSegment) (v22 : Int) (v44 : Bool) (v45 : SRecv) (v48 : (List SSpan)) (kn : (List SBlock) → Option R) : Option R :=
  cond (v45.xSacks) (cond (decide (0 < (p1.xData.length : Int))) (cond (decide (0 ≤ v22)) (cond (!v44) (G36 cp n p1.xSeq (p1.xData.length : Int) (fun r49 => kn [(SBlock.mk p1.xSeq r49)])) (kn [])) (kn [])) (kn [])) (kn [])
def s12_14 (cp : CP) (n : Nat) (v45 : SRecv) (v48 : (List SSpan)) (v50 : (List SBlock)) (kr : SRecv → SSegment → Option R) : Option R :=
  G32 cp n (SRecv.mk v45.xNext v45.xUnread v45.xLate v45.xCap v45.xShift v45.xEdge v45.xRecent v45.xStamps v45.xSacks v45.xFin v45.xDone v48 v45.xIrs v45.xOwn v45.xStamp) v50 (fun r51 r52 => kr r51 r52)
def s12_17 (cp : CP) (n : Nat) (p1 : SSegment) (v22 : Int) (v44 : Bool) (v45 : SRecv) (v48 : (List SSpan)) (kr : SRecv → SSegment → Option R) : Option R :=
  s12_12 cp n p1 v22 v44 v45 v48 (fun v50 => s12_14 cp n v45 v48 v50 (fun v53 v54 => (kr v53 v54)))
def s12_19 (cp : CP) (n : Nat) (p1 : SSegment) (v22 : Int) (v44 : Bool) (v45 : SRecv) (kr : SRecv → SSegment → Option R) : Option R :=
  s12_10 cp n p1 v22 v44 v45 (fun v48 => s12_17 cp n p1 v22 v44 v45 v48 (fun v55 v56 => (kr v55 v56)))
def s12_21 (cp : CP) (n : Nat) (p1 : SSegment) (v22 : Int) (v23 : SRecv) (v31 : Int) (v32 : Bool) (kr : SRecv → SSegment → Option R) : Option R :=
  s12_8 cp n p1 v22 v23 v31 v32 (fun v44 v45 => s12_19 cp n p1 v22 v44 v45 (fun v57 v58 => (kr v57 v58)))
def s12_23 (cp : CP) (n : Nat) (p1 : SSegment) (v22 : Int) (v23 : SRecv) (kr : SRecv → SSegment → Option R) : Option R :=
  s12_6 cp n p1 v22 v23 (fun v31 v32 => s12_21 cp n p1 v22 v23 v31 v32 (fun v59 v60 => (kr v59 v60)))
def s12_25 (cp : CP) (n : Nat) (p1 : SSegment) (v22 : Int) (v23 : SRecv) (kr : SRecv → SSegment → Option R) : Option R :=
  s12_4 cp n p1 v22 v23 (s12_23 cp n p1 v22 v23 (fun v61 v62 => (kr v61 v62))) (fun v29 v30 => (kr v29 v30))
def s12_27 (cp : CP) (n : Nat) (p0 : SRecv) (p1 : SSegment) (kr : Bool → Int → SRecv → SSegment → Option R) : Option R :=
  s12_1 cp n p0 p1 (fun v22 v23 => s12_25 cp n p1 v22 v23 (fun v63 v64 => (kr true 0 v63 v64))) (fun v24 v25 => (kr false v24 v25 (SSegment.mk 0 0 0 0 0 0 0 0 0 false false 0 0 [] [])))
def G12 (cp : CP) : Nat → SRecv → SSegment → (SRecv → SSegment → Bool → Int → Option R) → Option R
  | 0, _, _, _ => none
  | n + 1, p0, p1, k =>
    s12_27 cp n p0 p1 (fun v65 v66 v67 v68 => k v67 v68 v65 v66)
/-! tideway/seq.Clamp -/
def G51 (cp : CP) : Nat → Int → Int → Int → (Int → Option R) → Option R
  | 0, _, _, _, _ => none
  | n + 1, p0, p1, p2, k =>
    k (mx p1 (mn p0 p2))
/-! tideway/recv.Read -/
def s20_1 (cp : CP) (n : Nat) (p0 : SRecv) (p1 : Int) (kn : (List Int) → SRecv → Option R) (kr : Int → Option R) : Option R :=
  G10 cp n p0 (fun r87 => cond (!decide (r87 = 0)) (kr r87) (G29 cp n p0 (fun r88 => G51 cp n p1 0 (r88.xUnread.length : Int) (fun r89 => cond (decide (0 ≤ r89)) (cond (decide (r89 ≤ (r88.xUnread.length : Int))) (G52 cp n (r88.xUnread.take (Int.toNat r89)) (fun r90 => cond (decide (0 ≤ r89)) (cond (decide (r89 ≤ (r88.xUnread.length : Int))) (kn r90 (SRecv.mk r88.xNext (List.take (r88.xUnread.length - (Int.toNat r89)) (r88.xUnread.drop (Int.toNat r89))) r88.xLate r88.xCap r88.xShift r88.xEdge r88.xRecent r88.xStamps r88.xSacks r88.xFin r88.xDone r88.xFirst r88.xIrs r88.xOwn r88.xStamp)) (none)) (none))) (none)) (none)))))
def s20_4 (cp : CP) (n : Nat) (v91 : (List Int)) (v92 : SRecv) (kr : Bool → SRecv → SSegment → Option R) : Option R :=
  G49 cp n v92 (fun r94 => cond (decide ((wr .i64 ((wr .i64 (v92.xNext + r94)) - v92.xEdge)) < (mx (wr .i64 (Int.tdiv v92.xCap 2)) 1))) (kr false v92 (SSegment.mk 0 0 0 0 0 0 0 0 0 false false 0 0 [] [])) (G32 cp n v92 [] (fun r95 r96 => kr true r95 r96)))
def s20_7 (cp : CP) (n : Nat) (p0 : SRecv) (p1 : Int) (kr : (List Int) → Bool → Int → SRecv → SSegment → Option R) : Option R :=
  s20_1 cp n p0 p1 (fun v91 v92 => s20_4 cp n v91 v92 (fun v97 v98 v99 => (kr v91 v97 0 v98 v99))) (fun v93 => (kr [] false v93 (SRecv.mk 0 [] [] 0 0 0 0 false false 0 false [] 0 0 false) (SSegment.mk 0 0 0 0 0 0 0 0 0 false false 0 0 [] [])))
def G20 (cp : CP) : Nat → SRecv → Int → (SRecv → (List Int) → SSegment → Bool → Int → Option R) → Option R
  | 0, _, _, _ => none
  | n + 1, p0, p1, k =>
    s20_7 cp n p0 p1 (fun v100 v101 v102 v103 v104 => k v103 v100 v104 v101 v102)
/-! tideway/tidewaylaw08.heads -/
def s11_1 (cp : CP) (n : Nat) (kn : Int → Bool → Int → Bool → Int → (List Int) → Int → SRecv → SSegment → SRecv → SSegment → SRecv → Option R) : Option R :=
  G17 cp n 10 0 100 7 false true (fun r28 r29 => G12 cp n r28 (SSegment.mk 0 0 102 0 0 0 0 0 0 false false 0 0 [] [99, 100]) (fun r30 r31 r32 r33 => G12 cp n r30 (SSegment.mk 0 0 100 0 0 0 0 0 0 false false 0 0 [] [97, 98]) (fun r34 r35 r36 r37 => G20 cp n r34 3 (fun r38 r39 r40 r41 r42 => kn r29 r32 r33 r36 r37 r39 r42 r28 r31 r34 r35 r38))))
def s11_3 (cp : CP) (n : Nat) (v43 : Int) (v44 : Bool) (v45 : Int) (v46 : Bool) (v47 : Int) (v48 : (List Int)) (v49 : Int) (v50 : SRecv) (v51 : SSegment) (v52 : SRecv) (v53 : SSegment) (v54 : SRecv) (kr : Bool → Option R) : Option R :=
  G17 cp n 0 0 0 0 false false (fun r55 r56 => cond (!decide (v43 = 0)) (kr false) (cond (!decide (v45 = 0)) (kr false) (cond (!decide (v47 = 0)) (kr false) (cond (!decide (v49 = 0)) (kr false) (cond (!v44) (kr false) (cond (!v46) (kr false) (cond (!decide (r56 = 2)) (kr false) (cond (decide (v51.xAck = 100)) (cond (decide ((v51.xSacks.length : Int) = 1)) (cond (decide (0 < (v51.xSacks.length : Int))) (cond ((decide ((v51.xSacks.getD 0 zBlock).xFrom = 102) && (decide ((v51.xSacks.getD 0 zBlock).xTo = 104) && true))) (cond (decide (v53.xAck = 104)) (cond (((strOfNums v52.xUnread).data.toList == str_abcd.data.toList)) (cond (((strOfNums v48).data.toList == str_abc.data.toList)) (cond (((strOfNums v54.xUnread).data.toList == str_d.data.toList)) (G22 cp n v50 (fun r57 => kr (decide (r57 = 10)))) (kr false)) (kr false)) (kr false)) (kr false)) (kr false)) (none)) (kr false)) (kr false)))))))))
def s11_6 (cp : CP) (n : Nat) (kr : Bool → Option R) : Option R :=
  s11_1 cp n (fun v43 v44 v45 v46 v47 v48 v49 v50 v51 v52 v53 v54 => s11_3 cp n v43 v44 v45 v46 v47 v48 v49 v50 v51 v52 v53 v54 (fun v58 => (kr v58)))
def G11 (cp : CP) : Nat → (Bool → Option R) → Option R
  | 0, _ => none
  | n + 1, k =>
    s11_6 cp n (fun v59 => k v59)
/-! tideway/recv.Tell -/
def G23 (cp : CP) : Nat → SRecv → (SRecv → SSegment → Option R) → Option R
  | 0, _, _ => none
  | n + 1, p0, k =>
    G10 cp n p0 (fun r15 => cond (!decide (r15 = 0)) (k (SRecv.mk 0 [] [] 0 0 0 0 false false 0 false [] 0 0 false) (SSegment.mk 0 0 0 0 0 0 0 0 0 false false 0 0 [] [])) (G29 cp n p0 (fun r16 => G32 cp n r16 [] (fun r17 r18 => k r17 r18))))
/-! tideway/tidewaylaw08.RecvWindow -/
def s8_1 (cp : CP) (n : Nat) (p0 : SRecv) (p1 : Int) (kn : Int → Option R) (kr : Bool → Option R) : Option R :=
  G10 cp n p0 (fun r4 => cond (!decide (r4 = 0)) (G22 cp n p0 (fun r5 => cond (decide (r5 = 0)) (G11 cp n (fun r6 => kr r6)) (kr false))) (G22 cp n p0 (fun r7 => kn r7)))
def s8_4 (cp : CP) (n : Nat) (p0 : SRecv) (p1 v8 : Int) (kn : (List Int) → Int → SRecv → SRecv → SSegment → Option R) : Option R :=
  G20 cp n p0 p1 (fun r15 r16 r17 r18 r19 => G23 cp n p0 (fun r20 r21 => kn r16 r19 r15 r20 r21))
def s8_6 (cp : CP) (n : Nat) (p0 : SRecv) (v8 : Int) (v22 : (List Int)) (v23 : Int) (v24 v25 : SRecv) (v26 : SSegment) (kr : Bool → Option R) : Option R :=
  cond (decide (0 ≤ v8)) (cond (decide (v8 ≤ (wr .i64 (p0.xCap - (p0.xUnread.length : Int))))) (cond (decide (v23 = 0)) (G22 cp n v24 (fun r27 => cond (decide (v8 ≤ r27)) (G22 cp n v24 (fun r28 => cond (decide ((wr .u64 p0.xShift) < 0)) (none) (cond (decide (r28 ≤ (wr .i64 ((wr .i64 (v8 + (v22.length : Int))) + (shl .i64 1 (wr .u64 p0.xShift)))))) (cond (decide ((wr .u64 p0.xShift) < 0)) (none) (cond (decide ((shl .i64 v26.xWin (wr .u64 p0.xShift)) = v8)) (cond (decide (p0.xEdge ≤ v25.xEdge)) (cond (decide (v25.xEdge ≤ (mx p0.xEdge (wr .i64 (p0.xNext + v8))))) (G11 cp n (fun r29 => kr r29)) (kr false)) (kr false)) (kr false))) (kr false)))) (kr false))) (kr false)) (kr false)) (kr false)
def s8_9 (cp : CP) (n : Nat) (p0 : SRecv) (p1 v8 : Int) (kr : Bool → Option R) : Option R :=
  s8_4 cp n p0 p1 v8 (fun v22 v23 v24 v25 v26 => s8_6 cp n p0 v8 v22 v23 v24 v25 v26 (fun v30 => (kr v30)))
def s8_11 (cp : CP) (n : Nat) (p0 : SRecv) (p1 : Int) (kr : Bool → Option R) : Option R :=
  s8_1 cp n p0 p1 (fun v8 => s8_9 cp n p0 p1 v8 (fun v31 => (kr v31))) (fun v9 => (kr v9))
def G8 (cp : CP) : Nat → SRecv → Int → (Bool → Option R) → Option R
  | 0, _, _, _ => none
  | n + 1, p0, p1, k =>
    s8_11 cp n p0 p1 (fun v32 => k v32)
def ca27 (cp : CP) (n : Nat) (av : Fr) (cs : List Fr) (k : Ret2 RW → Option R) : Option R := match av, cs with
  | [y0], [] => (dA y0).bind fun c0_ => (dRecv c0_).bind fun p0 => G27 cp n p0 (fun r0 => k ⟨(tL r0), [], []⟩)
  | _, _ => none
def ca53 (cp : CP) (n : Nat) (av : Fr) (cs : List Fr) (k : Ret2 RW → Option R) : Option R := match av, cs with
  | [y0], [] => (dA y0).bind fun c0_ => (dRecv c0_).bind fun p0 => G53 cp n p0 (fun r0 => k ⟨(tL r0), [], []⟩)
  | _, _ => none
def ca55 (cp : CP) (n : Nat) (av : Fr) (cs : List Fr) (k : Ret2 RW → Option R) : Option R := match av, cs with
  | [y0], [] => (dA y0).bind fun c0_ => (dRecv c0_).bind fun p0 => G55 cp n p0 (fun r0 => k ⟨.clo 70 [(4, 0)], [], [(eRecv r0)]⟩)
  | _, _ => none
def ca71 (cp : CP) (n : Nat) (av : Fr) (cs : List Fr) (k : Ret2 RW → Option R) : Option R := match av, cs with
  | [y0], [] => (dA y0).bind fun c0_ => (dPiece c0_).bind fun p0 => G71 cp n p0 (fun r0 => k ⟨.agg (eSpan r0), [], []⟩)
  | _, _ => none
def ca1007 (cp : CP) (n : Nat) (av : Fr) (cs : List Fr) (k : Ret2 RW → Option R) : Option R := match av, cs with
  | [y0, y1], [w0] => (dRSpan true y0).bind fun p0 => (dC 70 [(32, 0)] y1).bind fun _ => (dRecv w0).bind fun q0 => G1007 cp n p0 q0 (fun r0 r1 => k ⟨.row false (.rSpan r0), [(eRecv r1)], []⟩)
  | _, _ => none
def ca1006 (cp : CP) (n : Nat) (av : Fr) (cs : List Fr) (k : Ret2 RW → Option R) : Option R := match av, cs with
  | [y0], [w0] => (dC 70 [(5, 0)] y0).bind fun _ => (dRecv w0).bind fun q0 => G1006 cp n q0 (fun r0 r1 => k ⟨.row false (.rSpan r0), [(eRecv r1)], []⟩)
  | _, _ => none
def ca72 (cp : CP) (n : Nat) (av : Fr) (cs : List Fr) (k : Ret2 RW → Option R) : Option R := match av, cs with
  | [y0, y1], [] => (dRSpan false y0).bind fun p0 => (dA y1).bind fun c1_ => (dSpan c1_).bind fun p1 => G72 cp n p0 p1 (fun r0 => k ⟨(tL r0), [], []⟩)
  | _, _ => none
def ca56 (cp : CP) (n : Nat) (av : Fr) (cs : List Fr) (k : Ret2 RW → Option R) : Option R := match av, cs with
  | [y0, y1], [] => (dRSpan false y0).bind fun p0 => (dA y1).bind fun c1_ => (dSpan c1_).bind fun p1 => G56 cp n p0 p1 (fun r0 => k ⟨(tB r0), [], []⟩)
  | _, _ => none
def ca28 (cp : CP) (n : Nat) (av : Fr) (cs : List Fr) (k : Ret2 RW → Option R) : Option R := match av, cs with
  | [y0], [] => (dA y0).bind fun c0_ => (dRecv c0_).bind fun p0 => G28 cp n p0 (fun r0 => k ⟨(tB r0), [], []⟩)
  | _, _ => none
def ca10 (cp : CP) (n : Nat) (av : Fr) (cs : List Fr) (k : Ret2 RW → Option R) : Option R := match av, cs with
  | [y0], [] => (dA y0).bind fun c0_ => (dRecv c0_).bind fun p0 => G10 cp n p0 (fun r0 => k ⟨(tL r0), [], []⟩)
  | _, _ => none
def ca49 (cp : CP) (n : Nat) (av : Fr) (cs : List Fr) (k : Ret2 RW → Option R) : Option R := match av, cs with
  | [y0], [] => (dA y0).bind fun c0_ => (dRecv c0_).bind fun p0 => G49 cp n p0 (fun r0 => k ⟨(tL r0), [], []⟩)
  | _, _ => none
def ca22 (cp : CP) (n : Nat) (av : Fr) (cs : List Fr) (k : Ret2 RW → Option R) : Option R := match av, cs with
  | [y0], [] => (dA y0).bind fun c0_ => (dRecv c0_).bind fun p0 => G22 cp n p0 (fun r0 => k ⟨(tL r0), [], []⟩)
  | _, _ => none
def ca17 (cp : CP) (n : Nat) (av : Fr) (cs : List Fr) (k : Ret2 RW → Option R) : Option R := match av, cs with
  | [y0, y1, y2, y3, y4, y5], [] => (dI .i64 y0).bind fun p0 => (dI .i64 y1).bind fun p1 => (dI .u32 y2).bind fun p2 => (dI .u32 y3).bind fun p3 => (dB y4).bind fun p4 => (dB y5).bind fun p5 => G17 cp n p0 p1 p2 p3 p4 p5 (fun r0 r1 => k ⟨.tup [.agg (eRecv r0), (tL r1)], [], []⟩)
  | _, _ => none
def ca57 (cp : CP) (n : Nat) (av : Fr) (cs : List Fr) (k : Ret2 RW → Option R) : Option R := match av, cs with
  | [y0], [] => (dRSpan false y0).bind fun p0 => G57 cp n p0 (fun r0 => k ⟨.row true (.rSpan r0), [], []⟩)
  | _, _ => none
def ca52 (cp : CP) (n : Nat) (av : Fr) (cs : List Fr) (k : Ret2 RW → Option R) : Option R := match av, cs with
  | [y0], [] => (dRuint8 false y0).bind fun p0 => G52 cp n p0 (fun r0 => k ⟨.row true (.ruint8 r0), [], []⟩)
  | _, _ => none
def ca29 (cp : CP) (n : Nat) (av : Fr) (cs : List Fr) (k : Ret2 RW → Option R) : Option R := match av, cs with
  | [y0], [] => (dA y0).bind fun c0_ => (dRecv c0_).bind fun p0 => G29 cp n p0 (fun r0 => k ⟨.agg (eRecvt r0), [], []⟩)
  | _, _ => none
def ca31 (cp : CP) (n : Nat) (av : Fr) (cs : List Fr) (k : Ret2 RW → Option R) : Option R := match av, cs with
  | [y0, y1], [] => (dI .u32 y0).bind fun p0 => (dI .u32 y1).bind fun p1 => G31 cp n p0 p1 (fun r0 => k ⟨(tL r0), [], []⟩)
  | _, _ => none
def ca58 (cp : CP) (n : Nat) (av : Fr) (cs : List Fr) (k : Ret2 RW → Option R) : Option R := match av, cs with
  | [y0, y1], [] => (dI .i64 y0).bind fun p0 => (dI .i64 y1).bind fun p1 => G58 cp n p0 p1 (fun r0 => k ⟨(tL r0), [], []⟩)
  | _, _ => none
def ca30 (cp : CP) (n : Nat) (av : Fr) (cs : List Fr) (k : Ret2 RW → Option R) : Option R := match av, cs with
  | [y0, y1], [] => (dI .i64 y0).bind fun p0 => (dI .u32 y1).bind fun p1 => G30 cp n p0 p1 (fun r0 => k ⟨(tL r0), [], []⟩)
  | _, _ => none
def ca36 (cp : CP) (n : Nat) (av : Fr) (cs : List Fr) (k : Ret2 RW → Option R) : Option R := match av, cs with
  | [y0, y1], [] => (dI .u32 y0).bind fun p0 => (dI .i64 y1).bind fun p1 => G36 cp n p0 p1 (fun r0 => k ⟨(tI .u32 r0), [], []⟩)
  | _, _ => none
def ca32 (cp : CP) (n : Nat) (av : Fr) (cs : List Fr) (k : Ret2 RW → Option R) : Option R := match av, cs with
  | [y0, y1], [] => (dA y0).bind fun c0_ => (dRecv c0_).bind fun p0 => (dRBlock true y1).bind fun p1 => G32 cp n p0 p1 (fun r0 r1 => k ⟨.tup [.agg (eRecv r0), .agg [(tL r1.xSrcPort), (tL r1.xDstPort), (tI .u32 r1.xSeq), (tI .u32 r1.xAck), (tL r1.xFlags), (tL r1.xWin), (tL r1.xUrg), (tL r1.xMss), (tL r1.xScale), (tB r1.xSackOk), (tB r1.xStamped), (tI .u32 r1.xVal), (tI .u32 r1.xEcr), .row true (.rBlock r1.xSacks), .row false (.ruint8 r1.xData)]], [], []⟩)
  | _, _ => none
def ca33 (cp : CP) (n : Nat) (av : Fr) (cs : List Fr) (k : Ret2 RW → Option R) : Option R := match av, cs with
  | [y0, y1], [] => (dA y0).bind fun c0_ => (dRecv c0_).bind fun p0 => (dI .i64 y1).bind fun p1 => G33 cp n p0 p1 (fun r0 => k ⟨(tL r0), [], []⟩)
  | _, _ => none
def ca82 (cp : CP) (n : Nat) (av : Fr) (cs : List Fr) (k : Ret2 RW → Option R) : Option R := match av, cs with
  | [y0], [] => (dA y0).bind fun c0_ => (dSpan c0_).bind fun p0 => G82 cp n p0 (fun r0 => k ⟨(tB r0), [], []⟩)
  | _, _ => none
def ca78 (cp : CP) (n : Nat) (av : Fr) (cs : List Fr) (k : Ret2 RW → Option R) : Option R := match av, cs with
  | [y0], [] => (dRSpan false y0).bind fun p0 => G78 cp n p0 (fun r0 => k ⟨(tL r0), [], []⟩)
  | _, _ => none
def ca79 (cp : CP) (n : Nat) (av : Fr) (cs : List Fr) (k : Ret2 RW → Option R) : Option R := match av, cs with
  | [y0, y1], [] => (dRSpan false y0).bind fun p0 => (dA y1).bind fun c1_ => (dSpan c1_).bind fun p1 => G79 cp n p0 p1 (fun r0 r1 => k ⟨.clo 83 [(6, 0), (8, 0)], [], [[.row false (.rSpan r0)], (eSpan r1)]⟩)
  | _, _ => none
def ca61 (cp : CP) (n : Nat) (av : Fr) (cs : List Fr) (k : Ret2 RW → Option R) : Option R := match av, cs with
  | [y0, y1], [] => (dRSpan false y0).bind fun p0 => (dA y1).bind fun c1_ => (dSpan c1_).bind fun p1 => G61 cp n p0 p1 (fun r0 => k ⟨.row false (.rSpan r0), [], []⟩)
  | _, _ => none
def ca74 (cp : CP) (n : Nat) (av : Fr) (cs : List Fr) (k : Ret2 RW → Option R) : Option R := match av, cs with
  | [y0, y1], [] => (dA y0).bind fun c0_ => (dPiece c0_).bind fun p0 => (dI .i64 y1).bind fun p1 => G74 cp n p0 p1 (fun r0 => k ⟨(tL r0), [], []⟩)
  | _, _ => none
def ca1032 (cp : CP) (n : Nat) (av : Fr) (cs : List Fr) (k : Ret2 RW → Option R) : Option R := match av, cs with
  | [y0, y1, y2], [] => (dRPiece false y0).bind fun p0 => (dI .i64 y1).bind fun p1 => (dC 74 [] y2).bind fun _ => G1032 cp n p0 p1 (fun r0 r1 => k ⟨.tup [(tL r0), (tB r1)], [], []⟩)
  | _, _ => none
def ca1034 (cp : CP) (n : Nat) (av : Fr) (cs : List Fr) (k : Ret2 RW → Option R) : Option R := match av, cs with
  | [y0], [] => (dRPiece false y0).bind fun p0 => G1034 cp n p0 (fun r0 => k ⟨.un none (.rPiece r0), [], []⟩)
  | _, _ => none
def ca75 (cp : CP) (n : Nat) (av : Fr) (cs : List Fr) (k : Ret2 RW → Option R) : Option R := match av, cs with
  | [y0, y1, y2], [] => (dUPiece y0).bind fun p0 => (dI .i64 y1).bind fun p1 => (dXPiece y2).bind fun p2 => G75 cp n p0 p1 p2 (fun r0 => k ⟨.un none (.rPiece r0), [], []⟩)
  | _, _ => none
def ca77 (cp : CP) (n : Nat) (av : Fr) (cs : List Fr) (k : Ret2 RW → Option R) : Option R := match av, cs with
  | [y0], [] => (dRuint8 false y0).bind fun p0 => G77 cp n p0 (fun r0 => k ⟨.row true (.ruint8 r0), [], []⟩)
  | _, _ => none
def ca60 (cp : CP) (n : Nat) (av : Fr) (cs : List Fr) (k : Ret2 RW → Option R) : Option R := match av, cs with
  | [y0, y1], [] => (dRPiece false y0).bind fun p0 => (dA y1).bind fun c1_ => (dPiece c1_).bind fun p1 => G60 cp n p0 p1 (fun r0 => k ⟨.row true (.rPiece r0), [], []⟩)
  | _, _ => none
def ca1030 (cp : CP) (n : Nat) (av : Fr) (cs : List Fr) (k : Ret2 RW → Option R) : Option R := match av, cs with
  | [y0, y1, y2, y3, y4], [w0, w1, w2, w3] => (dA y0).bind fun c0_ => (dSpan c0_).bind fun p0 => (dP 43 0 y1).bind fun _ => (dP 23 0 y2).bind fun _ => (dP 41 0 y3).bind fun _ => (dP 39 0 y4).bind fun _ => (dRecvt w0).bind fun q0 => (dOne w1).bind fun u1 => (dI .i64 u1).bind fun q1 => (dOne w2).bind fun u2 => (dRuint8 false u2).bind fun q2 => (dOne w3).bind fun u3 => (dB u3).bind fun q3 => G1030 cp n p0 q0 q1 q2 q3 (fun r0 r1 r2 r3 => k ⟨.tup [], [(eRecvt r0), [(tL r1)], [.row false (.ruint8 r2)], [(tB r3)]], []⟩)
  | _, _ => none
def ca34 (cp : CP) (n : Nat) (av : Fr) (cs : List Fr) (k : Ret2 RW → Option R) : Option R := match av, cs with
  | [y0, y1, y2], [] => (dA y0).bind fun c0_ => (dRecvt c0_).bind fun p0 => (dI .i64 y1).bind fun p1 => (dRuint8 false y2).bind fun p2 => G34 cp n p0 p1 p2 (fun r0 r1 => k ⟨.tup [.agg [(tL r0.xNext), .row true (.ruint8 r0.xUnread), .row false (.rPiece r0.xLate), (tL r0.xCap), (tL r0.xShift), (tL r0.xEdge), (tI .u32 r0.xRecent), (tB r0.xStamps), (tB r0.xSacks), (tL r0.xFin), (tB r0.xDone), .row true (.rSpan r0.xFirst), (tI .u32 r0.xIrs), (tI .u32 r0.xOwn), (tB r0.xStamp)], (tB r1)], [], []⟩)
  | _, _ => none
def ca1039 (cp : CP) (n : Nat) (av : Fr) (cs : List Fr) (k : Ret2 RW → Option R) : Option R := match av, cs with
  | [y0, y1], [w0] => (dA y0).bind fun c0_ => (dSpan c0_).bind fun p0 => (dP 16 0 y1).bind fun _ => (dSpan w0).bind fun q0 => G1039 cp n p0 q0 (fun r0 r1 => k ⟨(tB r0), [(eSpan r1)], []⟩)
  | _, _ => none
def ca1038 (cp : CP) (n : Nat) (av : Fr) (cs : List Fr) (k : Ret2 RW → Option R) : Option R := match av, cs with
  | [y0, y1], [w0] => (dRSpan false y0).bind fun p0 => (dC 63 [(19, 0)] y1).bind fun _ => (dSpan w0).bind fun q0 => G1038 cp n p0 q0 (fun r0 r1 => k ⟨(tL r0), [(eSpan r1)], []⟩)
  | _, _ => none
def ca35 (cp : CP) (n : Nat) (av : Fr) (cs : List Fr) (k : Ret2 RW → Option R) : Option R := match av, cs with
  | [y0, y1, y2], [] => (dA y0).bind fun c0_ => (dRecv c0_).bind fun p0 => (dI .i64 y1).bind fun p1 => (dRuint8 false y2).bind fun p2 => G35 cp n p0 p1 p2 (fun r0 => k ⟨.row true (.rSpan r0), [], []⟩)
  | _, _ => none
def ca12 (cp : CP) (n : Nat) (av : Fr) (cs : List Fr) (k : Ret2 RW → Option R) : Option R := match av, cs with
  | [y0, y1], [] => (dA y0).bind fun c0_ => (dRecv c0_).bind fun p0 => (dA y1).bind fun c1_ => (dSegment c1_).bind fun p1 => G12 cp n p0 p1 (fun r0 r1 r2 r3 => k ⟨.tup [.agg (eRecv r0), .agg (eSegment r1), (tB r2), (tL r3)], [], []⟩)
  | _, _ => none
def ca51 (cp : CP) (n : Nat) (av : Fr) (cs : List Fr) (k : Ret2 RW → Option R) : Option R := match av, cs with
  | [y0, y1, y2], [] => (dI .i64 y0).bind fun p0 => (dI .i64 y1).bind fun p1 => (dI .i64 y2).bind fun p2 => G51 cp n p0 p1 p2 (fun r0 => k ⟨(tL r0), [], []⟩)
  | _, _ => none
def ca20 (cp : CP) (n : Nat) (av : Fr) (cs : List Fr) (k : Ret2 RW → Option R) : Option R := match av, cs with
  | [y0, y1], [] => (dA y0).bind fun c0_ => (dRecv c0_).bind fun p0 => (dI .i64 y1).bind fun p1 => G20 cp n p0 p1 (fun r0 r1 r2 r3 r4 => k ⟨.tup [.agg (eRecv r0), .row false (.ruint8 r1), .agg (eSegment r2), (tB r3), (tL r4)], [], []⟩)
  | _, _ => none
def ca11 (cp : CP) (n : Nat) (av : Fr) (cs : List Fr) (k : Ret2 RW → Option R) : Option R := match av, cs with
  | [], [] => G11 cp n (fun r0 => k ⟨(tB r0), [], []⟩)
  | _, _ => none
def ca23 (cp : CP) (n : Nat) (av : Fr) (cs : List Fr) (k : Ret2 RW → Option R) : Option R := match av, cs with
  | [y0], [] => (dA y0).bind fun c0_ => (dRecv c0_).bind fun p0 => G23 cp n p0 (fun r0 r1 => k ⟨.tup [.agg (eRecv r0), .agg (eSegment r1)], [], []⟩)
  | _, _ => none
def ca8 (cp : CP) (n : Nat) (av : Fr) (cs : List Fr) (k : Ret2 RW → Option R) : Option R := match av, cs with
  | [y0, y1], [] => (dA y0).bind fun c0_ => (dRecv c0_).bind fun p0 => (dI .i64 y1).bind fun p1 => G8 cp n p0 p1 (fun r0 => k ⟨(tB r0), [], []⟩)
  | _, _ => none
def callP (cp : CP) (n : Nat) (id : Nat) (av : Fr) (cs : List Fr) (k : Ret2 RW → Option R) : Option R := match id with
  | 27 => ca27 cp n av cs k
  | 53 => ca53 cp n av cs k
  | 55 => ca55 cp n av cs k
  | 71 => ca71 cp n av cs k
  | 1007 => ca1007 cp n av cs k
  | 1006 => ca1006 cp n av cs k
  | 72 => ca72 cp n av cs k
  | 56 => ca56 cp n av cs k
  | 28 => ca28 cp n av cs k
  | 10 => ca10 cp n av cs k
  | 49 => ca49 cp n av cs k
  | 22 => ca22 cp n av cs k
  | 17 => ca17 cp n av cs k
  | 57 => ca57 cp n av cs k
  | 52 => ca52 cp n av cs k
  | 29 => ca29 cp n av cs k
  | 31 => ca31 cp n av cs k
  | 58 => ca58 cp n av cs k
  | 30 => ca30 cp n av cs k
  | 36 => ca36 cp n av cs k
  | 32 => ca32 cp n av cs k
  | 33 => ca33 cp n av cs k
  | 82 => ca82 cp n av cs k
  | 78 => ca78 cp n av cs k
  | 79 => ca79 cp n av cs k
  | 61 => ca61 cp n av cs k
  | 74 => ca74 cp n av cs k
  | 1032 => ca1032 cp n av cs k
  | 1034 => ca1034 cp n av cs k
  | 75 => ca75 cp n av cs k
  | 77 => ca77 cp n av cs k
  | 60 => ca60 cp n av cs k
  | 1030 => ca1030 cp n av cs k
  | 34 => ca34 cp n av cs k
  | 1039 => ca1039 cp n av cs k
  | 1038 => ca1038 cp n av cs k
  | 35 => ca35 cp n av cs k
  | 12 => ca12 cp n av cs k
  | 51 => ca51 cp n av cs k
  | 20 => ca20 cp n av cs k
  | 11 => ca11 cp n av cs k
  | 23 => ca23 cp n av cs k
  | 8 => ca8 cp n av cs k
  | _ => none
end
end Go.Proofs.Ytilmdmjhdidoiaa.M
