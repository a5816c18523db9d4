/- The values of the program's functions, and the functions, plain. -/
import Derived.Test.YtilmdmjhdidoiaaMachX
set_option maxRecDepth 100000
set_option linter.unusedVariables false
namespace Go.Proofs.Ytilmdmjhdidoiaa.M
open Go
noncomputable section
def str_ : ByteArray := ⟨#[]⟩
def str_abcd : ByteArray := ⟨#[97, 98, 99, 100]⟩
def str_abc : ByteArray := ⟨#[97, 98, 99]⟩
def str_d : ByteArray := ⟨#[100]⟩
def zuint8 : Int := 0
structure SPiece where
  xFrom : Int
  xData : (List Int)
def zPiece : SPiece := ⟨0, []⟩
structure SSpan where
  xFrom : Int
  xTo : Int
def zSpan : SSpan := ⟨0, 0⟩
structure SRecv where
  xNext : Int
  xUnread : (List Int)
  xLate : (List SPiece)
  xCap : Int
  xShift : Int
  xEdge : Int
  xRecent : Int
  xStamps : Bool
  xSacks : Bool
  xFin : Int
  xDone : Bool
  xFirst : (List SSpan)
  xIrs : Int
  xOwn : Int
  xStamp : Bool
def zRecv : SRecv := ⟨0, [], [], 0, 0, 0, 0, false, false, 0, false, [], 0, 0, false⟩
structure SBlock where
  xFrom : Int
  xTo : Int
def zBlock : SBlock := ⟨0, 0⟩
structure SSegment where
  xSrcPort : Int
  xDstPort : Int
  xSeq : Int
  xAck : Int
  xFlags : Int
  xWin : Int
  xUrg : Int
  xMss : Int
  xScale : Int
  xSackOk : Bool
  xStamped : Bool
  xVal : Int
  xEcr : Int
  xSacks : (List SBlock)
  xData : (List Int)
def zSegment : SSegment := ⟨0, 0, 0, 0, 0, 0, 0, 0, 0, false, false, 0, 0, [], []⟩
inductive RW where
  | ruint8 (xs : List Int)
  | rPiece (xs : List SPiece)
  | rSpan (xs : List SSpan)
  | rBlock (xs : List SBlock)

abbrev Fr := List (TV RW)
abbrev FF := FT RW
def tI (k : IntKind) (n : Int) : TV RW := .sc (.int k n)
def tL (n : Int) : TV RW := .sc (.int .i64 n)
def tB (b : Bool) : TV RW := .sc (.bool b)
def dT : Nat → Fr → Fr
  | 0, l => l
  | n + 1, l => .dead :: dT n l
def dc : Fr := dT 16 []
def eRecv (x : SRecv) : List (TV RW) := [(tL x.xNext), .row false (.ruint8 x.xUnread), .row false (.rPiece x.xLate), (tL x.xCap), (tL x.xShift), (tL x.xEdge), (tI .u32 x.xRecent), (tB x.xStamps), (tB x.xSacks), (tL x.xFin), (tB x.xDone), .row false (.rSpan x.xFirst), (tI .u32 x.xIrs), (tI .u32 x.xOwn), (tB x.xStamp)]
def eRecvt (x : SRecv) : List (TV RW) := [(tL x.xNext), .row true (.ruint8 x.xUnread), .row true (.rPiece x.xLate), (tL x.xCap), (tL x.xShift), (tL x.xEdge), (tI .u32 x.xRecent), (tB x.xStamps), (tB x.xSacks), (tL x.xFin), (tB x.xDone), .row true (.rSpan x.xFirst), (tI .u32 x.xIrs), (tI .u32 x.xOwn), (tB x.xStamp)]
def ePiece (x : SPiece) : List (TV RW) := [(tL x.xFrom), .row false (.ruint8 x.xData)]
def ePiecet (x : SPiece) : List (TV RW) := [(tL x.xFrom), .row true (.ruint8 x.xData)]
def eSpan (x : SSpan) : List (TV RW) := [(tL x.xFrom), (tL x.xTo)]
def eSegment (x : SSegment) : List (TV RW) := [(tL x.xSrcPort), (tL x.xDstPort), (tI .u32 x.xSeq), (tI .u32 x.xAck), (tL x.xFlags), (tL x.xWin), (tL x.xUrg), (tL x.xMss), (tL x.xScale), (tB x.xSackOk), (tB x.xStamped), (tI .u32 x.xVal), (tI .u32 x.xEcr), .row false (.rBlock x.xSacks), .row false (.ruint8 x.xData)]
def eSegmentt (x : SSegment) : List (TV RW) := [(tL x.xSrcPort), (tL x.xDstPort), (tI .u32 x.xSeq), (tI .u32 x.xAck), (tL x.xFlags), (tL x.xWin), (tL x.xUrg), (tL x.xMss), (tL x.xScale), (tB x.xSackOk), (tB x.xStamped), (tI .u32 x.xVal), (tI .u32 x.xEcr), .row true (.rBlock x.xSacks), .row true (.ruint8 x.xData)]
def eBlock (x : SBlock) : List (TV RW) := [(tI .u32 x.xFrom), (tI .u32 x.xTo)]
def euint8 (x : Int) : List (TV RW) := [(tI .u8 x)]
def cuint8 (x : Int) : List AV := [.sc (.int .u8 x)]
def cPiece (x : SPiece) : List AV := [.sc (.int .i64 x.xFrom), .row false 1 x.xData.length (rg cuint8 zuint8 x.xData)]
def cSpan (x : SSpan) : List AV := [.sc (.int .i64 x.xFrom), .sc (.int .i64 x.xTo)]
def cBlock (x : SBlock) : List AV := [.sc (.int .u32 x.xFrom), .sc (.int .u32 x.xTo)]
def dOne : Fr → Option (TV RW)
  | [x] => some x
  | _ => none
def dI (kd : IntKind) : TV RW → Option Int
  | .sc (.int k a) => cond (decide (k = kd)) (some a) none
  | _ => none
def dB : TV RW → Option Bool
  | .sc (.bool b) => some b
  | _ => none
def dS : TV RW → Option ByteArray
  | .sc (.string b) => some b
  | _ => none
def dA : TV RW → Option Fr
  | .agg cs => some cs
  | _ => none
def dP (h j : Nat) : TV RW → Option Unit
  | .ptr a b => cond (Nat.beq a h && Nat.beq b j) (some ()) none
  | _ => none
def dC (f : Nat) (cs : List (Nat × Nat)) : TV RW → Option Unit
  | .clo a b => cond (Nat.beq a f && decide (b = cs)) (some ()) none
  | _ => none
def dUPiece : TV RW → Option (List SPiece)
  | .un none (.rPiece xs) => some xs
  | _ => none
def dXPiece : TV RW → Option SPiece
  | .row _ (.rPiece [x]) => some x
  | _ => none
def dRuint8 (fl : Bool) : TV RW → Option (List Int)
  | .row a (.ruint8 xs) => cond (a == fl) (some xs) none
  | _ => none
def dRPiece (fl : Bool) : TV RW → Option (List SPiece)
  | .row a (.rPiece xs) => cond (a == fl) (some xs) none
  | _ => none
def dRSpan (fl : Bool) : TV RW → Option (List SSpan)
  | .row a (.rSpan xs) => cond (a == fl) (some xs) none
  | _ => none
def dRBlock (fl : Bool) : TV RW → Option (List SBlock)
  | .row a (.rBlock xs) => cond (a == fl) (some xs) none
  | _ => none
def dRecv : Fr → Option SRecv
  | [y0, y1, y2, y3, y4, y5, y6, y7, y8, y9, y10, y11, y12, y13, y14] => (dI .i64 y0).bind fun a0 => (dRuint8 false y1).bind fun a1 => (dRPiece false y2).bind fun a2 => (dI .i64 y3).bind fun a3 => (dI .i64 y4).bind fun a4 => (dI .i64 y5).bind fun a5 => (dI .u32 y6).bind fun a6 => (dB y7).bind fun a7 => (dB y8).bind fun a8 => (dI .i64 y9).bind fun a9 => (dB y10).bind fun a10 => (dRSpan false y11).bind fun a11 => (dI .u32 y12).bind fun a12 => (dI .u32 y13).bind fun a13 => (dB y14).bind fun a14 => some ⟨a0, a1, a2, a3, a4, a5, a6, a7, a8, a9, a10, a11, a12, a13, a14⟩
  | _ => none
def dRecvt : Fr → Option SRecv
  | [y0, y1, y2, y3, y4, y5, y6, y7, y8, y9, y10, y11, y12, y13, y14] => (dI .i64 y0).bind fun a0 => (dRuint8 true y1).bind fun a1 => (dRPiece true y2).bind fun a2 => (dI .i64 y3).bind fun a3 => (dI .i64 y4).bind fun a4 => (dI .i64 y5).bind fun a5 => (dI .u32 y6).bind fun a6 => (dB y7).bind fun a7 => (dB y8).bind fun a8 => (dI .i64 y9).bind fun a9 => (dB y10).bind fun a10 => (dRSpan true y11).bind fun a11 => (dI .u32 y12).bind fun a12 => (dI .u32 y13).bind fun a13 => (dB y14).bind fun a14 => some ⟨a0, a1, a2, a3, a4, a5, a6, a7, a8, a9, a10, a11, a12, a13, a14⟩
  | _ => none
def dPiece : Fr → Option SPiece
  | [y0, y1] => (dI .i64 y0).bind fun a0 => (dRuint8 false y1).bind fun a1 => some ⟨a0, a1⟩
  | _ => none
def dPiecet : Fr → Option SPiece
  | [y0, y1] => (dI .i64 y0).bind fun a0 => (dRuint8 true y1).bind fun a1 => some ⟨a0, a1⟩
  | _ => none
def dSpan : Fr → Option SSpan
  | [y0, y1] => (dI .i64 y0).bind fun a0 => (dI .i64 y1).bind fun a1 => some ⟨a0, a1⟩
  | _ => none
def dSegment : Fr → Option SSegment
  | [y0, y1, y2, y3, y4, y5, y6, y7, y8, y9, y10, y11, y12, y13, y14] => (dI .i64 y0).bind fun a0 => (dI .i64 y1).bind fun a1 => (dI .u32 y2).bind fun a2 => (dI .u32 y3).bind fun a3 => (dI .i64 y4).bind fun a4 => (dI .i64 y5).bind fun a5 => (dI .i64 y6).bind fun a6 => (dI .i64 y7).bind fun a7 => (dI .i64 y8).bind fun a8 => (dB y9).bind fun a9 => (dB y10).bind fun a10 => (dI .u32 y11).bind fun a11 => (dI .u32 y12).bind fun a12 => (dRBlock false y13).bind fun a13 => (dRuint8 false y14).bind fun a14 => some ⟨a0, a1, a2, a3, a4, a5, a6, a7, a8, a9, a10, a11, a12, a13, a14⟩
  | _ => none
def dSegmentt : Fr → Option SSegment
  | [y0, y1, y2, y3, y4, y5, y6, y7, y8, y9, y10, y11, y12, y13, y14] => (dI .i64 y0).bind fun a0 => (dI .i64 y1).bind fun a1 => (dI .u32 y2).bind fun a2 => (dI .u32 y3).bind fun a3 => (dI .i64 y4).bind fun a4 => (dI .i64 y5).bind fun a5 => (dI .i64 y6).bind fun a6 => (dI .i64 y7).bind fun a7 => (dI .i64 y8).bind fun a8 => (dB y9).bind fun a9 => (dB y10).bind fun a10 => (dI .u32 y11).bind fun a11 => (dI .u32 y12).bind fun a12 => (dRBlock true y13).bind fun a13 => (dRuint8 true y14).bind fun a14 => some ⟨a0, a1, a2, a3, a4, a5, a6, a7, a8, a9, a10, a11, a12, a13, a14⟩
  | _ => none
def dBlock : Fr → Option SBlock
  | [y0, y1] => (dI .u32 y0).bind fun a0 => (dI .u32 y1).bind fun a1 => some ⟨a0, a1⟩
  | _ => none
def puint8_ : Fr → Option (List Int)
  | [] => some []
  | y0 :: r => (dI .u8 y0).bind fun a0 => (puint8_ r).bind fun xs => some (a0 :: xs)

def pPiece_ : Fr → Option (List SPiece)
  | [] => some []
  | y0 :: y1 :: r => (dI .i64 y0).bind fun a0 => (dRuint8 false y1).bind fun a1 => (pPiece_ r).bind fun xs => some (⟨a0, a1⟩ :: xs)
  | _ => none

def pSpan_ : Fr → Option (List SSpan)
  | [] => some []
  | y0 :: y1 :: r => (dI .i64 y0).bind fun a0 => (dI .i64 y1).bind fun a1 => (pSpan_ r).bind fun xs => some (⟨a0, a1⟩ :: xs)
  | _ => none

def pBlock_ : Fr → Option (List SBlock)
  | [] => some []
  | y0 :: y1 :: r => (dI .u32 y0).bind fun a0 => (dI .u32 y1).bind fun a1 => (pBlock_ r).bind fun xs => some (⟨a0, a1⟩ :: xs)
  | _ => none

def U : Uni RW where
  sz := fun r => match r with
    | .ruint8 xs => 1
    | .rPiece xs => 2
    | .rSpan xs => 2
    | .rBlock xs => 2
  len := fun r => match r with
    | .ruint8 xs => xs.length
    | .rPiece xs => xs.length
    | .rSpan xs => xs.length
    | .rBlock xs => xs.length
  getA := fun r => match r with
    | .ruint8 xs => rg cuint8 zuint8 xs
    | .rPiece xs => rg cPiece zPiece xs
    | .rSpan xs => rg cSpan zSpan xs
    | .rBlock xs => rg cBlock zBlock xs
  get := fun r i => match r with
    | .ruint8 xs => euint8 (xs.getD i zuint8)
    | .rPiece xs => ePiece (xs.getD i zPiece)
    | .rSpan xs => eSpan (xs.getD i zSpan)
    | .rBlock xs => eBlock (xs.getD i zBlock)
  app := fun r q => match r with
    | .ruint8 xs => (match q with
      | .ruint8 ys => some (.ruint8 (xs ++ ys))
      | _ => none)
    | .rPiece xs => (match q with
      | .rPiece ys => some (.rPiece (xs ++ ys))
      | _ => none)
    | .rSpan xs => (match q with
      | .rSpan ys => some (.rSpan (xs ++ ys))
      | _ => none)
    | .rBlock xs => (match q with
      | .rBlock ys => some (.rBlock (xs ++ ys))
      | _ => none)
  sub := fun lo n r => match r with
    | .ruint8 xs => .ruint8 (List.take n (xs.drop lo))
    | .rPiece xs => .rPiece (List.take n (xs.drop lo))
    | .rSpan xs => .rSpan (List.take n (xs.drop lo))
    | .rBlock xs => .rBlock (List.take n (xs.drop lo))
  szt := fun t => match t with
    | 5 => 1
    | 74 => 2
    | 78 => 2
    | 62 => 2
    | _ => 0
  zt := fun t => match t with
    | 5 => euint8 zuint8
    | 74 => ePiece zPiece
    | 78 => eSpan zSpan
    | 62 => eBlock zBlock
    | _ => []
  lit := fun t n L => match t with
    | 5 => (puint8_ L).bind fun xs => cond (Nat.beq xs.length n) (some (.ruint8 xs)) none
    | 74 => (pPiece_ L).bind fun xs => cond (Nat.beq xs.length n) (some (.rPiece xs)) none
    | 78 => (pSpan_ L).bind fun xs => cond (Nat.beq xs.length n) (some (.rSpan xs)) none
    | 62 => (pBlock_ L).bind fun xs => cond (Nat.beq xs.length n) (some (.rBlock xs)) none
    | _ => none
  set := fun r q off cs => match r with
    | .ruint8 xs => none
    | .rPiece xs => (dPiece (splice2 (ePiece (xs.getD q zPiece)) off cs)).bind fun x => some (.rPiece (xs.set q x))
    | .rSpan xs => (dSpan (splice2 (eSpan (xs.getD q zSpan)) off cs)).bind fun x => some (.rSpan (xs.set q x))
    | .rBlock xs => (dBlock (splice2 (eBlock (xs.getD q zBlock)) off cs)).bind fun x => some (.rBlock (xs.set q x))
  str := fun r => match r with
    | .ruint8 xs => some xs
    | .rPiece xs => none
    | .rSpan xs => none
    | .rBlock xs => none
/-! tideway/recv.reach -/
def G_recv_reach {R : Type} (cp : Nat → Nat → Bool) : Nat → SRecv → (Int → Option R) → Option R
  | 0, _, _ => none
  | n + 1, p0, k =>
    k (wr .i64 ((wr .i64 (p0.xNext - (p0.xUnread.length : Int))) + p0.xCap))
/-! tideway/recv.limit -/
def G_recv_limit {R : Type} (cp : Nat → Nat → Bool) : Nat → SRecv → (Int → Option R) → Option R
  | 0, _, _ => none
  | n + 1, p0, k =>
    G_recv_reach cp n p0 (fun r3 => k (mn r3 562949953421312))
/-! tideway/recv.late -/
def G_recv_late {R : Type} (cp : Nat → Nat → Bool) : Nat → SRecv → (SRecv → Option R) → Option R
  | 0, _, _ => none
  | n + 1, p0, k =>
    k p0
/-! tideway/recv.of -/
def G_recv_of {R : Type} (cp : Nat → Nat → Bool) : Nat → SPiece → (SSpan → Option R) → Option R
  | 0, _, _ => none
  | n + 1, p0, k =>
    k (SSpan.mk p0.xFrom (wr .i64 (p0.xFrom + (p0.xData.length : Int))))
/-! slices.AppendSeq[[]tideway/api.Span,tideway/api.Span] -/
def s_slices_AppendSeq_Span_1 {R : Type} (cp : Nat → Nat → Bool) (n : Nat) (p0 : (List SSpan)) (q0 : SRecv) (kn : Option R) : Option R :=
  kn
def s_slices_AppendSeq_Span_3 {R : Type} (cp : Nat → Nat → Bool) (n : Nat) (p0 : (List SSpan)) (q0 : SRecv) (kn : Option R) : Option R :=
  kn
def s_slices_AppendSeq_Span_7 {R : Type} (cp : Nat → Nat → Bool) (n : Nat) (p0 : (List SSpan)) (q0 : SRecv) (kn : Int → Option R) : Option R :=
  kn (q0.xLate.length : Int)
def s_slices_AppendSeq_Span_9 {R : Type} (cp : Nat → Nat → Bool) (n : Nat) (q0 : SRecv) (v9 v10 : Int) (v11 : (List SSpan)) (kn : Option R) (ke0 : Option R) : Option R :=
  cond (decide (v10 < v9)) (kn) (ke0)
def s_slices_AppendSeq_Span_12 {R : Type} (cp : Nat → Nat → Bool) (n : Nat) (q0 : SRecv) (v9 v10 : Int) (v11 : (List SSpan)) (kn : Int → (List Int) → Option R) : Option R :=
  cond (decide (0 ≤ v10)) (cond (decide (v10 < (q0.xLate.length : Int))) (kn ((q0.xLate.getD (Int.toNat v10) zPiece).xFrom) ((q0.xLate.getD (Int.toNat v10) zPiece).xData)) (none)) (none)
def s_slices_AppendSeq_Span_14 {R : Type} (cp : Nat → Nat → Bool) (n : Nat) (q0 : SRecv) (v9 v10 : Int) (v11 : (List SSpan)) (v12 : Int) (v13 : (List Int)) (ka : Int → Int → Option R) : Option R :=
  G_recv_of cp n (SPiece.mk v12 v13) (fun r14 => ka r14.xFrom r14.xTo)
def s_slices_AppendSeq_Span_16 {R : Type} (cp : Nat → Nat → Bool) (n : Nat) (q0 : SRecv) (v11 : (List SSpan)) (v12 : Int) (v13 : (List Int)) (v15 v16 : Int) (kn : (List SSpan) → Option R) : Option R :=
  cond (cp (v11.length + [(SSpan.mk v15 v16)].length) 16) (kn (v11 ++ [(SSpan.mk v15 v16)])) (none)
def s_slices_AppendSeq_Span_22 {R : Type} (cp : Nat → Nat → Bool) (n : Nat) (q0 : SRecv) (v9 v10 : Int) (v11 : (List SSpan)) (v12 : Int) (v13 : (List Int)) (kn : (List SSpan) → Option R) : Option R :=
  s_slices_AppendSeq_Span_14 cp n q0 v9 v10 v11 v12 v13 (fun v15 v16 => s_slices_AppendSeq_Span_16 cp n q0 v11 v12 v13 v15 v16 (fun v17 => kn v17))
def s_slices_AppendSeq_Span_23 {R : Type} (cp : Nat → Nat → Bool) (n : Nat) (q0 : SRecv) (v9 v10 : Int) (v18 : (List SSpan)) (kn : Option R) : Option R :=
  kn
def s_slices_AppendSeq_Span_26 {R : Type} (cp : Nat → Nat → Bool) (n : Nat) (q0 : SRecv) (v9 v10 : Int) (v11 : (List SSpan)) (v12 : Int) (v13 : (List Int)) (kn : (List SSpan) → Option R) : Option R :=
  s_slices_AppendSeq_Span_22 cp n q0 v9 v10 v11 v12 v13 (fun v18 => s_slices_AppendSeq_Span_23 cp n q0 v9 v10 v18 (kn v18))
def s_slices_AppendSeq_Span_28 {R : Type} (cp : Nat → Nat → Bool) (n : Nat) (q0 : SRecv) (v9 v10 : Int) (v11 : (List SSpan)) (kn : (List SSpan) → Option R) : Option R :=
  s_slices_AppendSeq_Span_12 cp n q0 v9 v10 v11 (fun v12 v13 => s_slices_AppendSeq_Span_26 cp n q0 v9 v10 v11 v12 v13 (fun v19 => (kn v19)))
def s_slices_AppendSeq_Span_30 {R : Type} (cp : Nat → Nat → Bool) (n : Nat) (q0 : SRecv) (v9 v10 : Int) (v11 : (List SSpan)) (kn : (List SSpan) → Option R) : Option R :=
  s_slices_AppendSeq_Span_28 cp n q0 v9 v10 v11 (fun v20 => (kn v20))
def s_slices_AppendSeq_Span_31 {R : Type} (cp : Nat → Nat → Bool) (n : Nat) (q0 : SRecv) (v9 v10 : Int) (v21 : (List SSpan)) (kn : Int → Option R) : Option R :=
  kn (wr .i64 (v10 + 1))
def s_slices_AppendSeq_Span_34 {R : Type} (cp : Nat → Nat → Bool) (n : Nat) (q0 : SRecv) (v9 v10 : Int) (v11 : (List SSpan)) (kn : Int → (List SSpan) → Option R) : Option R :=
  s_slices_AppendSeq_Span_30 cp n q0 v9 v10 v11 (fun v21 => s_slices_AppendSeq_Span_31 cp n q0 v9 v10 v21 (fun v22 => (kn v22 v21)))
def s_slices_AppendSeq_Span_36 {R : Type} (cp : Nat → Nat → Bool) (n : Nat) (q0 : SRecv) (v9 v10 : Int) (v11 : (List SSpan)) (kn : Int → (List SSpan) → Option R) (ke0 : Option R) : Option R :=
  s_slices_AppendSeq_Span_9 cp n q0 v9 v10 v11 (s_slices_AppendSeq_Span_34 cp n q0 v9 v10 v11 (fun v23 v24 => (kn v23 v24))) ke0
def l_slices_AppendSeq_Span_38 {R : Type} (cp : Nat → Nat → Bool) (n : Nat) : Nat → SRecv → Int → Int → (List SSpan) → ((List SSpan) → Option R) → Option R
  | 0, _, _, _, _, _ => none
  | m + 1, q0, v9, v10, v11, ke0 =>
    s_slices_AppendSeq_Span_36 cp n q0 v9 v10 v11 (fun v25 v26 => l_slices_AppendSeq_Span_38 cp n m q0 v9 v25 v26 ke0) (ke0 v11)
def s_slices_AppendSeq_Span_39 {R : Type} (cp : Nat → Nat → Bool) (n : Nat) (p0 : (List SSpan)) (q0 : SRecv) (v9 : Int) (ke0 : (List SSpan) → Option R) : Option R :=
  l_slices_AppendSeq_Span_38 cp n n q0 v9 0 p0 ke0
def s_slices_AppendSeq_Span_41 {R : Type} (cp : Nat → Nat → Bool) (n : Nat) (p0 : (List SSpan)) (q0 : SRecv) (v9 : Int) (kn : (List SSpan) → Option R) : Option R :=
  s_slices_AppendSeq_Span_39 cp n p0 q0 v9 (fun v27 => (kn v27))
def s_slices_AppendSeq_Span_43 {R : Type} (cp : Nat → Nat → Bool) (n : Nat) (p0 : (List SSpan)) (q0 : SRecv) (kn : (List SSpan) → Option R) : Option R :=
  s_slices_AppendSeq_Span_7 cp n p0 q0 (fun v9 => s_slices_AppendSeq_Span_41 cp n p0 q0 v9 (fun v28 => (kn v28)))
def s_slices_AppendSeq_Span_46 {R : Type} (cp : Nat → Nat → Bool) (n : Nat) (p0 : (List SSpan)) (q0 : SRecv) (kn : (List SSpan) → Option R) : Option R :=
  s_slices_AppendSeq_Span_43 cp n p0 q0 (fun v29 => (kn v29))
def s_slices_AppendSeq_Span_48 {R : Type} (cp : Nat → Nat → Bool) (n : Nat) (p0 : (List SSpan)) (q0 : SRecv) (kn : (List SSpan) → Option R) : Option R :=
  s_slices_AppendSeq_Span_46 cp n p0 q0 (fun v30 => (kn v30))
def s_slices_AppendSeq_Span_50 {R : Type} (cp : Nat → Nat → Bool) (n : Nat) (p0 : (List SSpan)) (q0 : SRecv) (kn : (List SSpan) → Option R) : Option R :=
  s_slices_AppendSeq_Span_3 cp n p0 q0 (s_slices_AppendSeq_Span_48 cp n p0 q0 (fun v31 => (kn v31)))
def s_slices_AppendSeq_Span_51 {R : Type} (cp : Nat → Nat → Bool) (n : Nat) (q0 : SRecv) (v32 : (List SSpan)) (kr : Option R) : Option R :=
  kr
def s_slices_AppendSeq_Span_54 {R : Type} (cp : Nat → Nat → Bool) (n : Nat) (p0 : (List SSpan)) (q0 : SRecv) (kr : (List SSpan) → Option R) : Option R :=
  s_slices_AppendSeq_Span_50 cp n p0 q0 (fun v32 => s_slices_AppendSeq_Span_51 cp n q0 v32 (kr v32))
def s_slices_AppendSeq_Span_56 {R : Type} (cp : Nat → Nat → Bool) (n : Nat) (p0 : (List SSpan)) (q0 : SRecv) (kr : (List SSpan) → Option R) : Option R :=
  s_slices_AppendSeq_Span_1 cp n p0 q0 (s_slices_AppendSeq_Span_54 cp n p0 q0 (fun v33 => (kr v33)))
def G_slices_AppendSeq_Span {R : Type} (cp : Nat → Nat → Bool) : Nat → (List SSpan) → SRecv → ((List SSpan) → SRecv → Option R) → Option R
  | 0, _, _, _ => none
  | n + 1, p0, q0, k =>
    s_slices_AppendSeq_Span_56 cp n p0 q0 (fun v34 => k v34 q0)
/-! slices.Collect[tideway/api.Span] -/
def G_slices_Collect {R : Type} (cp : Nat → Nat → Bool) : Nat → SRecv → ((List SSpan) → SRecv → Option R) → Option R
  | 0, _, _ => none
  | n + 1, q0, k =>
    G_slices_AppendSeq_Span cp n [] q0 (fun r35 r36 => k r35 r36)
/-! slices.Index[[]tideway/api.Span,tideway/api.Span] -/
def s_slices_Index_Span_1 {R : Type} (cp : Nat → Nat → Bool) (n : Nat) (p0 : (List SSpan)) (p1 : SSpan) (kn : Option R) : Option R :=
  kn
def s_slices_Index_Span_3 {R : Type} (cp : Nat → Nat → Bool) (n : Nat) (p0 : (List SSpan)) (p1 : SSpan) (kn : Int → Option R) : Option R :=
  kn (p0.length : Int)
def s_slices_Index_Span_5 {R : Type} (cp : Nat → Nat → Bool) (n : Nat) (p0 : (List SSpan)) (p1 : SSpan) (v41 v42 : Int) (kn : Int → Option R) (kr : Option R) (ke0 : Option R) : Option R :=
  cond (decide (v42 < v41)) (cond (decide (0 ≤ v42)) (cond (decide (v42 < (p0.length : Int))) (cond ((decide (p1.xFrom = (p0.getD (Int.toNat v42) zSpan).xFrom) && (decide (p1.xTo = (p0.getD (Int.toNat v42) zSpan).xTo) && true))) (kr) (kn (wr .i64 (v42 + 1)))) (none)) (none)) (ke0)
def l_slices_Index_Span_11 {R : Type} (cp : Nat → Nat → Bool) (n : Nat) : Nat → (List SSpan) → SSpan → Int → Int → (Int → Option R) → (Option R) → Option R
  | 0, _, _, _, _, _, _ => none
  | m + 1, p0, p1, v41, v42, kr, ke0 =>
    s_slices_Index_Span_5 cp n p0 p1 v41 v42 (fun v43 => l_slices_Index_Span_11 cp n m p0 p1 v41 v43 kr ke0) (kr v42) ke0
def s_slices_Index_Span_12 {R : Type} (cp : Nat → Nat → Bool) (n : Nat) (p0 : (List SSpan)) (p1 : SSpan) (v41 : Int) (kr : Int → Option R) (ke0 : Option R) : Option R :=
  l_slices_Index_Span_11 cp n n p0 p1 v41 0 kr ke0
def s_slices_Index_Span_14 {R : Type} (cp : Nat → Nat → Bool) (n : Nat) (p0 : (List SSpan)) (p1 : SSpan) (v41 : Int) (kn : Option R) (kr : Int → Option R) : Option R :=
  s_slices_Index_Span_12 cp n p0 p1 v41 (fun v44 => (kr v44)) kn
def s_slices_Index_Span_16 {R : Type} (cp : Nat → Nat → Bool) (n : Nat) (p0 : (List SSpan)) (p1 : SSpan) (kn : Option R) (kr : Int → Option R) : Option R :=
  s_slices_Index_Span_3 cp n p0 p1 (fun v41 => s_slices_Index_Span_14 cp n p0 p1 v41 kn (fun v45 => (kr v45)))
def s_slices_Index_Span_17 {R : Type} (cp : Nat → Nat → Bool) (n : Nat) (kr : Option R) : Option R :=
  kr
def s_slices_Index_Span_20 {R : Type} (cp : Nat → Nat → Bool) (n : Nat) (p0 : (List SSpan)) (p1 : SSpan) (kr : Int → Option R) : Option R :=
  s_slices_Index_Span_16 cp n p0 p1 (s_slices_Index_Span_17 cp n (kr (-1))) (fun v46 => (kr v46))
def s_slices_Index_Span_22 {R : Type} (cp : Nat → Nat → Bool) (n : Nat) (p0 : (List SSpan)) (p1 : SSpan) (kr : Int → Option R) : Option R :=
  s_slices_Index_Span_1 cp n p0 p1 (s_slices_Index_Span_20 cp n p0 p1 (fun v47 => (kr v47)))
def G_slices_Index_Span {R : Type} (cp : Nat → Nat → Bool) : Nat → (List SSpan) → SSpan → (Int → Option R) → Option R
  | 0, _, _, _ => none
  | n + 1, p0, p1, k =>
    s_slices_Index_Span_22 cp n p0 p1 (fun v48 => k v48)
/-! slices.Contains[[]tideway/api.Span,tideway/api.Span] -/
def G_slices_Contains_Span {R : Type} (cp : Nat → Nat → Bool) : Nat → (List SSpan) → SSpan → (Bool → Option R) → Option R
  | 0, _, _, _ => none
  | n + 1, p0, p1, k =>
    G_slices_Index_Span cp n p0 p1 (fun r49 => k (decide (0 ≤ r49)))
/-! tideway/recv.pieces -/
def s_recv_pieces_1 {R : Type} (cp : Nat → Nat → Bool) (n : Nat) (p0 : SRecv) (kn : Option R) : Option R :=
  kn
def s_recv_pieces_3 {R : Type} (cp : Nat → Nat → Bool) (n : Nat) (p0 : SRecv) (kn : Int → Option R) : Option R :=
  kn (p0.xLate.length : Int)
def s_recv_pieces_5 {R : Type} (cp : Nat → Nat → Bool) (n : Nat) (p0 : SRecv) (v2 v3 v4 : Int) (kn : Int → Int → Option R) (kr : Option R) (ke0 : Option R) : Option R :=
  cond (decide (v4 < v2)) (cond (decide (0 ≤ v4)) (cond (decide (v4 < (p0.xLate.length : Int))) (cond (decide ((((p0.xLate.getD (Int.toNat v4) zPiece).xData).length : Int) = 0)) (kr) (cond (decide (((p0.xLate.getD (Int.toNat v4) zPiece).xFrom) ≤ v3)) (kr) (G_recv_limit cp n p0 (fun r5 => cond (decide ((wr .i64 (r5 - (((p0.xLate.getD (Int.toNat v4) zPiece).xData).length : Int))) < ((p0.xLate.getD (Int.toNat v4) zPiece).xFrom))) (kr) (cond (decide (0 ≤ p0.xFin)) (cond (decide ((wr .i64 (p0.xFin - (((p0.xLate.getD (Int.toNat v4) zPiece).xData).length : Int))) < ((p0.xLate.getD (Int.toNat v4) zPiece).xFrom))) (kr) (kn (wr .i64 (((p0.xLate.getD (Int.toNat v4) zPiece).xFrom) + (((p0.xLate.getD (Int.toNat v4) zPiece).xData).length : Int))) (wr .i64 (v4 + 1)))) (kn (wr .i64 (((p0.xLate.getD (Int.toNat v4) zPiece).xFrom) + (((p0.xLate.getD (Int.toNat v4) zPiece).xData).length : Int))) (wr .i64 (v4 + 1)))))))) (none)) (none)) (ke0)
def l_recv_pieces_10 {R : Type} (cp : Nat → Nat → Bool) (n : Nat) : Nat → SRecv → Int → Int → Int → (Option R) → (Option R) → Option R
  | 0, _, _, _, _, _, _ => none
  | m + 1, p0, v2, v3, v4, kr, ke0 =>
    s_recv_pieces_5 cp n p0 v2 v3 v4 (fun v6 v7 => l_recv_pieces_10 cp n m p0 v2 v6 v7 kr ke0) kr ke0
def s_recv_pieces_11 {R : Type} (cp : Nat → Nat → Bool) (n : Nat) (p0 : SRecv) (v2 : Int) (kr : Option R) (ke0 : Option R) : Option R :=
  l_recv_pieces_10 cp n n p0 v2 p0.xNext 0 kr ke0
def s_recv_pieces_12 {R : Type} (cp : Nat → Nat → Bool) (n : Nat) (p0 : SRecv) (v2 : Int) (kn : Option R) (kr : Option R) : Option R :=
  s_recv_pieces_11 cp n p0 v2 kr kn
def s_recv_pieces_13 {R : Type} (cp : Nat → Nat → Bool) (n : Nat) (p0 : SRecv) (kn : Option R) (kr : Option R) : Option R :=
  s_recv_pieces_3 cp n p0 (fun v2 => s_recv_pieces_12 cp n p0 v2 kn kr)
def s_recv_pieces_14 {R : Type} (cp : Nat → Nat → Bool) (n : Nat) (p0 : SRecv) (kn : (List SSpan) → Option R) : Option R :=
  G_recv_late cp n p0 (fun r8 => G_slices_Collect cp n r8 (fun r37 r38 => kn r37))
def s_recv_pieces_16 {R : Type} (cp : Nat → Nat → Bool) (n : Nat) (p0 : SRecv) (v39 : (List SSpan)) (kn : Int → Option R) : Option R :=
  kn (p0.xFirst.length : Int)
def s_recv_pieces_18 {R : Type} (cp : Nat → Nat → Bool) (n : Nat) (p0 : SRecv) (v39 : (List SSpan)) (v40 v41 : Int) (kn : Int → Option R) (kr : Option R) (ke2 : Option R) : Option R :=
  cond (decide (v41 < v40)) (cond (decide (0 ≤ v41)) (cond (decide (v41 < (p0.xFirst.length : Int))) (G_slices_Contains_Span cp n v39 (p0.xFirst.getD (Int.toNat v41) zSpan) (fun r42 => cond (!r42) (kr) (cond (decide (0 ≤ v41)) (cond (decide (v41 ≤ (p0.xFirst.length : Int))) (G_slices_Contains_Span cp n (p0.xFirst.take (Int.toNat v41)) (p0.xFirst.getD (Int.toNat v41) zSpan) (fun r43 => cond (r43) (kr) (kn (wr .i64 (v41 + 1))))) (none)) (none)))) (none)) (none)) (ke2)
def l_recv_pieces_22 {R : Type} (cp : Nat → Nat → Bool) (n : Nat) : Nat → SRecv → (List SSpan) → Int → Int → (Option R) → (Option R) → Option R
  | 0, _, _, _, _, _, _ => none
  | m + 1, p0, v39, v40, v41, kr, ke2 =>
    s_recv_pieces_18 cp n p0 v39 v40 v41 (fun v44 => l_recv_pieces_22 cp n m p0 v39 v40 v44 kr ke2) kr ke2
def s_recv_pieces_23 {R : Type} (cp : Nat → Nat → Bool) (n : Nat) (p0 : SRecv) (v39 : (List SSpan)) (v40 : Int) (kr : Option R) (ke2 : Option R) : Option R :=
  l_recv_pieces_22 cp n n p0 v39 v40 0 kr ke2
def s_recv_pieces_24 {R : Type} (cp : Nat → Nat → Bool) (n : Nat) (p0 : SRecv) (v39 : (List SSpan)) (v40 : Int) (kn : Option R) (kr : Option R) : Option R :=
  s_recv_pieces_23 cp n p0 v39 v40 kr kn
def s_recv_pieces_25 {R : Type} (cp : Nat → Nat → Bool) (n : Nat) (p0 : SRecv) (v39 : (List SSpan)) (kn : Option R) (kr : Option R) : Option R :=
  s_recv_pieces_16 cp n p0 v39 (fun v40 => s_recv_pieces_24 cp n p0 v39 v40 kn kr)
def s_recv_pieces_26 {R : Type} (cp : Nat → Nat → Bool) (n : Nat) (kr : Option R) : Option R :=
  kr
def s_recv_pieces_29 {R : Type} (cp : Nat → Nat → Bool) (n : Nat) (p0 : SRecv) (v39 : (List SSpan)) (kr : Bool → Option R) : Option R :=
  s_recv_pieces_25 cp n p0 v39 (s_recv_pieces_26 cp n (kr true)) (kr false)
def s_recv_pieces_31 {R : Type} (cp : Nat → Nat → Bool) (n : Nat) (p0 : SRecv) (kr : Bool → Option R) : Option R :=
  s_recv_pieces_14 cp n p0 (fun v39 => s_recv_pieces_29 cp n p0 v39 (fun v45 => (kr v45)))
def s_recv_pieces_33 {R : Type} (cp : Nat → Nat → Bool) (n : Nat) (p0 : SRecv) (kr : Bool → Option R) : Option R :=
  s_recv_pieces_13 cp n p0 (s_recv_pieces_31 cp n p0 (fun v46 => (kr v46))) (kr false)
def s_recv_pieces_35 {R : Type} (cp : Nat → Nat → Bool) (n : Nat) (p0 : SRecv) (kr : Bool → Option R) : Option R :=
  s_recv_pieces_1 cp n p0 (s_recv_pieces_33 cp n p0 (fun v47 => (kr v47)))
def G_recv_pieces {R : Type} (cp : Nat → Nat → Bool) : Nat → SRecv → (Bool → Option R) → Option R
  | 0, _, _ => none
  | n + 1, p0, k =>
    s_recv_pieces_35 cp n p0 (fun v48 => k v48)
/-! tideway/recv.Check -/
def s_recv_Check_1 {R : Type} (cp : Nat → Nat → Bool) (n : Nat) (p0 : SRecv) (kn : Option R) : Option R :=
  kn
def s_recv_Check_3 {R : Type} (cp : Nat → Nat → Bool) (n : Nat) (p0 : SRecv) (kn : Option R) (kr : Option R) : Option R :=
  cond (decide (0 ≤ p0.xNext)) (cond (decide (p0.xNext ≤ 562949953421312)) (cond (decide (1 ≤ p0.xCap)) (cond (decide (p0.xCap ≤ 1073741824)) (cond (decide (0 ≤ p0.xShift)) (cond (decide (p0.xShift ≤ 14)) (cond (!(decide ((p0.xUnread.length : Int) ≤ (mn p0.xCap p0.xNext)))) (kr) (cond (decide (p0.xEdge < 0)) (kr) (G_recv_reach cp n p0 (fun r1 => cond (decide (r1 < p0.xEdge)) (kr) (cond (decide (p0.xFin < (-1))) (kr) (cond (decide (0 ≤ p0.xFin)) (cond (decide (p0.xFin < p0.xNext)) (kr) (cond (decide (562949953421312 < p0.xFin)) (kr) (kn))) (cond (decide (562949953421312 < p0.xFin)) (kr) (kn)))))))) (kr)) (kr)) (kr)) (kr)) (kr)) (kr)
def s_recv_Check_5 {R : Type} (cp : Nat → Nat → Bool) (n : Nat) (p0 : SRecv) (kr : Int → Option R) : Option R :=
  G_recv_pieces cp n p0 (fun r2 => cond (!r2) (kr 230) (cond (!(p0.xDone == (decide (p0.xFin = p0.xNext)))) (kr 230) (cond (p0.xDone) (cond (decide (0 < (p0.xLate.length : Int))) (kr 230) (kr 0)) (kr 0))))
def s_recv_Check_8 {R : Type} (cp : Nat → Nat → Bool) (n : Nat) (p0 : SRecv) (kr : Int → Option R) : Option R :=
  s_recv_Check_3 cp n p0 (s_recv_Check_5 cp n p0 (fun v3 => (kr v3))) (kr 230)
def s_recv_Check_10 {R : Type} (cp : Nat → Nat → Bool) (n : Nat) (p0 : SRecv) (kr : Int → Option R) : Option R :=
  s_recv_Check_1 cp n p0 (s_recv_Check_8 cp n p0 (fun v4 => (kr v4)))
def G_recv_Check {R : Type} (cp : Nat → Nat → Bool) : Nat → SRecv → (Int → Option R) → Option R
  | 0, _, _ => none
  | n + 1, p0, k =>
    s_recv_Check_10 cp n p0 (fun v5 => k v5)
/-! tideway/recv.window -/
def G_recv_window {R : Type} (cp : Nat → Nat → Bool) : Nat → SRecv → (Int → Option R) → Option R
  | 0, _, _ => none
  | n + 1, p0, k =>
    cond (decide (p0.xShift < 0)) (none) (cond (decide (p0.xShift < 0)) (none) (k (shl .i64 (mn (shr .i64 (wr .i64 (p0.xCap - (p0.xUnread.length : Int))) p0.xShift) 65535) p0.xShift)))
/-! tideway/recv.New -/
def G_recv_New {R : Type} (cp : Nat → Nat → Bool) : Nat → Int → Int → Int → Int → Bool → Bool → (SRecv → Int → Option R) → Option R
  | 0, _, _, _, _, _, _, _ => none
  | n + 1, p0, p1, p2, p3, p4, p5, k =>
    cond (decide (p0 < 1)) (k (SRecv.mk 0 [] [] 0 0 0 0 false false 0 false [] 0 0 false) 2) (cond (decide (1073741824 < p0)) (k (SRecv.mk 0 [] [] 0 0 0 0 false false 0 false [] 0 0 false) 2) (cond (decide (p1 < 0)) (k (SRecv.mk 0 [] [] 0 0 0 0 false false 0 false [] 0 0 false) 2) (cond (decide (14 < p1)) (k (SRecv.mk 0 [] [] 0 0 0 0 false false 0 false [] 0 0 false) 2) (G_recv_window cp n (SRecv.mk 0 [] [] p0 p1 0 0 p4 p5 (-1) false [] p2 p3 false) (fun r7 => k (SRecv.mk 0 [] [] p0 p1 r7 0 p4 p5 (-1) false [] p2 p3 false) 0)))))
/-! slices.Clone[[]tideway/api.Span,tideway/api.Span] -/
def G_slices_Clone_Span {R : Type} (cp : Nat → Nat → Bool) : Nat → (List SSpan) → ((List SSpan) → Option R) → Option R
  | 0, _, _ => none
  | n + 1, p0, k => cond (cp (0 + p0.length) 16) (k p0) none
/-! bytes.Clone -/
def G_bytes_Clone {R : Type} (cp : Nat → Nat → Bool) : Nat → (List Int) → ((List Int) → Option R) → Option R
  | 0, _, _ => none
  | n + 1, p0, k => cond (cp (0 + p0.length) 1) (k p0) none
/-! tideway/recv.copied -/
def s_recv_copied_1 {R : Type} (cp : Nat → Nat → Bool) (n : Nat) (p0 : SRecv) (kn : (List Int) → (List SSpan) → Option R) : Option R :=
  cond (cp (([] : List Int).length + p0.xUnread.length) 1) (G_slices_Clone_Span cp n p0.xFirst (fun r13 => kn ([] ++ p0.xUnread) r13)) (none)
def s_recv_copied_3 {R : Type} (cp : Nat → Nat → Bool) (n : Nat) (p0 : SRecv) (v14 : (List Int)) (v15 : (List SSpan)) (kn : Int → Option R) : Option R :=
  kn (p0.xLate.length : Int)
def s_recv_copied_5 {R : Type} (cp : Nat → Nat → Bool) (n : Nat) (p0 : SRecv) (v14 : (List Int)) (v15 : (List SSpan)) (v16 v17 : Int) (v18 : (List SPiece)) (kn : Int → (List SPiece) → Option R) (ke0 : Option R) : Option R :=
  cond (decide (v17 < v16)) (cond (decide (0 ≤ v17)) (cond (decide (v17 < (p0.xLate.length : Int))) (G_bytes_Clone cp n ((p0.xLate.getD (Int.toNat v17) zPiece).xData) (fun r19 => cond (cp (v18.length + [(SPiece.mk ((p0.xLate.getD (Int.toNat v17) zPiece).xFrom) r19)].length) 32) (kn (wr .i64 (v17 + 1)) (v18 ++ [(SPiece.mk ((p0.xLate.getD (Int.toNat v17) zPiece).xFrom) r19)])) (none))) (none)) (none)) (ke0)
def l_recv_copied_10 {R : Type} (cp : Nat → Nat → Bool) (n : Nat) : Nat → SRecv → (List Int) → (List SSpan) → Int → Int → (List SPiece) → ((List SPiece) → Option R) → Option R
  | 0, _, _, _, _, _, _, _ => none
  | m + 1, p0, v14, v15, v16, v17, v18, ke0 =>
    s_recv_copied_5 cp n p0 v14 v15 v16 v17 v18 (fun v20 v21 => l_recv_copied_10 cp n m p0 v14 v15 v16 v20 v21 ke0) (ke0 v18)
def s_recv_copied_11 {R : Type} (cp : Nat → Nat → Bool) (n : Nat) (p0 : SRecv) (v14 : (List Int)) (v15 : (List SSpan)) (v16 : Int) (ke0 : (List SPiece) → Option R) : Option R :=
  l_recv_copied_10 cp n n p0 v14 v15 v16 0 [] ke0
def s_recv_copied_13 {R : Type} (cp : Nat → Nat → Bool) (n : Nat) (p0 : SRecv) (v14 : (List Int)) (v15 : (List SSpan)) (v16 : Int) (kn : (List SPiece) → Option R) : Option R :=
  s_recv_copied_11 cp n p0 v14 v15 v16 (fun v22 => (kn v22))
def s_recv_copied_15 {R : Type} (cp : Nat → Nat → Bool) (n : Nat) (p0 : SRecv) (v14 : (List Int)) (v15 : (List SSpan)) (kn : (List SPiece) → Option R) : Option R :=
  s_recv_copied_3 cp n p0 v14 v15 (fun v16 => s_recv_copied_13 cp n p0 v14 v15 v16 (fun v23 => (kn v23)))
def s_recv_copied_16 {R : Type} (cp : Nat → Nat → Bool) (n : Nat) (p0 : SRecv) (v14 : (List Int)) (v15 : (List SSpan)) (v24 : (List SPiece)) (kr : Option R) : Option R :=
  kr
def s_recv_copied_19 {R : Type} (cp : Nat → Nat → Bool) (n : Nat) (p0 : SRecv) (v14 : (List Int)) (v15 : (List SSpan)) (kr : (List SPiece) → Option R) : Option R :=
  s_recv_copied_15 cp n p0 v14 v15 (fun v24 => s_recv_copied_16 cp n p0 v14 v15 v24 (kr v24))
def s_recv_copied_21 {R : Type} (cp : Nat → Nat → Bool) (n : Nat) (p0 : SRecv) (kr : SRecv → Option R) : Option R :=
  s_recv_copied_1 cp n p0 (fun v14 v15 => s_recv_copied_19 cp n p0 v14 v15 (fun v25 => (kr (SRecv.mk p0.xNext v14 v25 p0.xCap p0.xShift p0.xEdge p0.xRecent p0.xStamps p0.xSacks p0.xFin p0.xDone v15 p0.xIrs p0.xOwn p0.xStamp))))
def G_recv_copied {R : Type} (cp : Nat → Nat → Bool) : Nat → SRecv → (SRecv → Option R) → Option R
  | 0, _, _ => none
  | n + 1, p0, k =>
    s_recv_copied_21 cp n p0 (fun v26 => k v26)
/-! tideway/seq.Diff -/
def G_seq_Diff {R : Type} (cp : Nat → Nat → Bool) : Nat → Int → Int → (Int → Option R) → Option R
  | 0, _, _, _ => none
  | n + 1, p0, p1, k =>
    k (wr .i64 (wr .i32 (wr .u32 (p1 - p0))))
/-! tideway/seq.Sum -/
def G_seq_Sum {R : Type} (cp : Nat → Nat → Bool) : Nat → Int → Int → (Int → Option R) → Option R
  | 0, _, _, _ => none
  | n + 1, p0, p1, k =>
    cond (decide (0 < p0)) (cond (decide (0 < p1)) (cond (decide ((wr .i64 (p0 + p1)) < 0)) (k 9223372036854775807) (cond (decide (p0 < 0)) (cond (decide (p1 < 0)) (cond (decide (0 ≤ (wr .i64 (p0 + p1)))) (k (-9223372036854775808)) (k (wr .i64 (p0 + p1)))) (k (wr .i64 (p0 + p1)))) (k (wr .i64 (p0 + p1))))) (cond (decide (p0 < 0)) (cond (decide (p1 < 0)) (cond (decide (0 ≤ (wr .i64 (p0 + p1)))) (k (-9223372036854775808)) (k (wr .i64 (p0 + p1)))) (k (wr .i64 (p0 + p1)))) (k (wr .i64 (p0 + p1))))) (cond (decide (p0 < 0)) (cond (decide (p1 < 0)) (cond (decide (0 ≤ (wr .i64 (p0 + p1)))) (k (-9223372036854775808)) (k (wr .i64 (p0 + p1)))) (k (wr .i64 (p0 + p1)))) (k (wr .i64 (p0 + p1))))
/-! tideway/seq.Unwrap -/
def G_seq_Unwrap {R : Type} (cp : Nat → Nat → Bool) : Nat → Int → Int → (Int → Option R) → Option R
  | 0, _, _, _ => none
  | n + 1, p0, p1, k =>
    G_seq_Diff cp n (wr .u32 p0) p1 (fun r28 => G_seq_Sum cp n p0 r28 (fun r29 => k r29))
/-! tideway/seq.Add -/
def G_seq_Add {R : Type} (cp : Nat → Nat → Bool) : Nat → Int → Int → (Int → Option R) → Option R
  | 0, _, _, _ => none
  | n + 1, p0, p1, k =>
    k (wr .u32 (p0 + (wr .u32 p1)))
/-! tideway/recv.tell -/
def s_recv_tell_1 {R : Type} (cp : Nat → Nat → Bool) (n : Nat) (p0 : SRecv) (p1 : (List SBlock)) (kn : Int → SSegment → Option R) : Option R :=
  cond (p0.xDone) (G_seq_Add cp n p0.xIrs (wr .i64 (p0.xNext + 1)) (fun r40 => G_recv_window cp n p0 (fun r41 => cond (decide (p0.xShift < 0)) (none) (cond (p0.xStamps) (kn (wr .i64 (4 - 1)) (SSegment.mk 0 0 p0.xOwn r40 16 (shr .i64 r41 p0.xShift) 0 (-1) (-1) false true 0 p0.xRecent p1 [])) (kn 4 (SSegment.mk 0 0 p0.xOwn r40 16 (shr .i64 r41 p0.xShift) 0 (-1) (-1) false false 0 0 p1 [])))))) (G_seq_Add cp n p0.xIrs p0.xNext (fun r42 => G_recv_window cp n p0 (fun r43 => cond (decide (p0.xShift < 0)) (none) (cond (p0.xStamps) (kn (wr .i64 (4 - 1)) (SSegment.mk 0 0 p0.xOwn r42 16 (shr .i64 r43 p0.xShift) 0 (-1) (-1) false true 0 p0.xRecent p1 [])) (kn 4 (SSegment.mk 0 0 p0.xOwn r42 16 (shr .i64 r43 p0.xShift) 0 (-1) (-1) false false 0 0 p1 []))))))
def s_recv_tell_3 {R : Type} (cp : Nat → Nat → Bool) (n : Nat) (p0 : SRecv) (v44 : Int) (v45 : SSegment) (kn : Int → Option R) : Option R :=
  kn (p0.xFirst.length : Int)
def s_recv_tell_5 {R : Type} (cp : Nat → Nat → Bool) (n : Nat) (p0 : SRecv) (v44 : Int) (v45 : SSegment) (v46 v47 : Int) (v48 : (List SBlock)) (kn : Int → (List SBlock) → Option R) (ke0 : Option R) : Option R :=
  cond (decide (v47 < v46)) (cond (decide (0 ≤ v47)) (cond (decide (v47 < (p0.xFirst.length : Int))) (cond (p0.xSacks) (cond (decide ((v48.length : Int) < v44)) (G_seq_Add cp n p0.xIrs ((p0.xFirst.getD (Int.toNat v47) zSpan).xFrom) (fun r49 => G_seq_Add cp n p0.xIrs ((p0.xFirst.getD (Int.toNat v47) zSpan).xTo) (fun r50 => cond (cp (v48.length + [(SBlock.mk r49 r50)].length) 8) (kn (wr .i64 (v47 + 1)) (v48 ++ [(SBlock.mk r49 r50)])) (none)))) (kn (wr .i64 (v47 + 1)) v48)) (kn (wr .i64 (v47 + 1)) v48)) (none)) (none)) (ke0)
def l_recv_tell_10 {R : Type} (cp : Nat → Nat → Bool) (n : Nat) : Nat → SRecv → Int → SSegment → Int → Int → (List SBlock) → ((List SBlock) → Option R) → Option R
  | 0, _, _, _, _, _, _, _ => none
  | m + 1, p0, v44, v45, v46, v47, v48, ke0 =>
    s_recv_tell_5 cp n p0 v44 v45 v46 v47 v48 (fun v51 v52 => l_recv_tell_10 cp n m p0 v44 v45 v46 v51 v52 ke0) (ke0 v48)
def s_recv_tell_11 {R : Type} (cp : Nat → Nat → Bool) (n : Nat) (p0 : SRecv) (v44 : Int) (v45 : SSegment) (v46 : Int) (ke0 : (List SBlock) → Option R) : Option R :=
  l_recv_tell_10 cp n n p0 v44 v45 v46 0 v45.xSacks ke0
def s_recv_tell_13 {R : Type} (cp : Nat → Nat → Bool) (n : Nat) (p0 : SRecv) (v44 : Int) (v45 : SSegment) (v46 : Int) (kn : (List SBlock) → Option R) : Option R :=
  s_recv_tell_11 cp n p0 v44 v45 v46 (fun v53 => (kn v53))
def s_recv_tell_15 {R : Type} (cp : Nat → Nat → Bool) (n : Nat) (p0 : SRecv) (v44 : Int) (v45 : SSegment) (kn : (List SBlock) → Option R) : Option R :=
  s_recv_tell_3 cp n p0 v44 v45 (fun v46 => s_recv_tell_13 cp n p0 v44 v45 v46 (fun v54 => (kn v54)))
def s_recv_tell_16 {R : Type} (cp : Nat → Nat → Bool) (n : Nat) (p0 : SRecv) (v45 : SSegment) (v55 : (List SBlock)) (kr : Int → Option R) : Option R :=
  G_recv_window cp n p0 (fun r56 => kr (mx p0.xEdge (wr .i64 (p0.xNext + r56))))
def s_recv_tell_19 {R : Type} (cp : Nat → Nat → Bool) (n : Nat) (p0 : SRecv) (v44 : Int) (v45 : SSegment) (kr : Int → (List SBlock) → Option R) : Option R :=
  s_recv_tell_15 cp n p0 v44 v45 (fun v55 => s_recv_tell_16 cp n p0 v45 v55 (fun v57 => (kr v57 v55)))
def s_recv_tell_21 {R : Type} (cp : Nat → Nat → Bool) (n : Nat) (p0 : SRecv) (p1 : (List SBlock)) (kr : Int → SSegment → Option R) : Option R :=
  s_recv_tell_1 cp n p0 p1 (fun v44 v45 => s_recv_tell_19 cp n p0 v44 v45 (fun v58 v59 => (kr v58 (SSegment.mk v45.xSrcPort v45.xDstPort v45.xSeq v45.xAck v45.xFlags v45.xWin v45.xUrg v45.xMss v45.xScale v45.xSackOk v45.xStamped v45.xVal v45.xEcr v59 v45.xData))))
def G_recv_tell {R : Type} (cp : Nat → Nat → Bool) : Nat → SRecv → (List SBlock) → (SRecv → SSegment → Option R) → Option R
  | 0, _, _, _ => none
  | n + 1, p0, p1, k =>
    s_recv_tell_21 cp n p0 p1 (fun v60 v61 => k (SRecv.mk p0.xNext p0.xUnread p0.xLate p0.xCap p0.xShift v60 p0.xRecent p0.xStamps p0.xSacks p0.xFin p0.xDone p0.xFirst p0.xIrs p0.xOwn p0.xStamp) v61)
/-! tideway/recv.end -/
def s_recv_end_1 {R : Type} (cp : Nat → Nat → Bool) (n : Nat) (p0 : SRecv) (p1 : Int) (kn : Option R) : Option R :=
  kn
def s_recv_end_3 {R : Type} (cp : Nat → Nat → Bool) (n : Nat) (p0 : SRecv) (p1 : Int) (kn : SRecv → Option R) : Option R :=
  G_recv_late cp n p0 (fun r26 => kn r26)
def s_recv_end_7 {R : Type} (cp : Nat → Nat → Bool) (n : Nat) (p0 : SRecv) (p1 : Int) (v27 : SRecv) (kn : Int → Option R) : Option R :=
  kn (v27.xLate.length : Int)
def s_recv_end_9 {R : Type} (cp : Nat → Nat → Bool) (n : Nat) (p0 : SRecv) (p1 : Int) (v27 : SRecv) (v28 v29 v30 : Int) (kn : Option R) (ke0 : Option R) : Option R :=
  cond (decide (v29 < v28)) (kn) (ke0)
def s_recv_end_12 {R : Type} (cp : Nat → Nat → Bool) (n : Nat) (p0 : SRecv) (p1 : Int) (v27 : SRecv) (v28 v29 v30 : Int) (kn : Int → (List Int) → Option R) : Option R :=
  cond (decide (0 ≤ v29)) (cond (decide (v29 < (v27.xLate.length : Int))) (kn ((v27.xLate.getD (Int.toNat v29) zPiece).xFrom) ((v27.xLate.getD (Int.toNat v29) zPiece).xData)) (none)) (none)
def s_recv_end_14 {R : Type} (cp : Nat → Nat → Bool) (n : Nat) (p0 : SRecv) (p1 : Int) (v27 : SRecv) (v28 v29 v30 v31 : Int) (v32 : (List Int)) (ka : Int → Int → Option R) : Option R :=
  G_recv_of cp n (SPiece.mk v31 v32) (fun r33 => ka r33.xFrom r33.xTo)
def s_recv_end_16 {R : Type} (cp : Nat → Nat → Bool) (n : Nat) (p0 : SRecv) (p1 : Int) (v27 : SRecv) (v30 v31 : Int) (v32 : (List Int)) (v34 v35 : Int) (kn : Option R) : Option R :=
  kn
def s_recv_end_22 {R : Type} (cp : Nat → Nat → Bool) (n : Nat) (p0 : SRecv) (p1 : Int) (v27 : SRecv) (v28 v29 v30 v31 : Int) (v32 : (List Int)) (kn : Int → Option R) : Option R :=
  s_recv_end_14 cp n p0 p1 v27 v28 v29 v30 v31 v32 (fun v34 v35 => s_recv_end_16 cp n p0 p1 v27 v30 v31 v32 v34 v35 (kn v35))
def s_recv_end_23 {R : Type} (cp : Nat → Nat → Bool) (n : Nat) (p0 : SRecv) (p1 : Int) (v27 : SRecv) (v28 v29 v36 : Int) (kn : Option R) : Option R :=
  kn
def s_recv_end_26 {R : Type} (cp : Nat → Nat → Bool) (n : Nat) (p0 : SRecv) (p1 : Int) (v27 : SRecv) (v28 v29 v30 v31 : Int) (v32 : (List Int)) (kn : Int → Option R) : Option R :=
  s_recv_end_22 cp n p0 p1 v27 v28 v29 v30 v31 v32 (fun v36 => s_recv_end_23 cp n p0 p1 v27 v28 v29 v36 (kn v36))
def s_recv_end_28 {R : Type} (cp : Nat → Nat → Bool) (n : Nat) (p0 : SRecv) (p1 : Int) (v27 : SRecv) (v28 v29 v30 : Int) (kn : Int → Option R) : Option R :=
  s_recv_end_12 cp n p0 p1 v27 v28 v29 v30 (fun v31 v32 => s_recv_end_26 cp n p0 p1 v27 v28 v29 v30 v31 v32 (fun v37 => (kn v37)))
def s_recv_end_30 {R : Type} (cp : Nat → Nat → Bool) (n : Nat) (p0 : SRecv) (p1 : Int) (v27 : SRecv) (v28 v29 v30 : Int) (kn : Int → Option R) : Option R :=
  s_recv_end_28 cp n p0 p1 v27 v28 v29 v30 (fun v38 => (kn v38))
def s_recv_end_31 {R : Type} (cp : Nat → Nat → Bool) (n : Nat) (p0 : SRecv) (p1 : Int) (v27 : SRecv) (v28 v29 v39 : Int) (kn : Int → Option R) : Option R :=
  kn (wr .i64 (v29 + 1))
def s_recv_end_34 {R : Type} (cp : Nat → Nat → Bool) (n : Nat) (p0 : SRecv) (p1 : Int) (v27 : SRecv) (v28 v29 v30 : Int) (kn : Int → Int → Option R) : Option R :=
  s_recv_end_30 cp n p0 p1 v27 v28 v29 v30 (fun v39 => s_recv_end_31 cp n p0 p1 v27 v28 v29 v39 (fun v40 => (kn v40 v39)))
def s_recv_end_36 {R : Type} (cp : Nat → Nat → Bool) (n : Nat) (p0 : SRecv) (p1 : Int) (v27 : SRecv) (v28 v29 v30 : Int) (kn : Int → Int → Option R) (ke0 : Option R) : Option R :=
  s_recv_end_9 cp n p0 p1 v27 v28 v29 v30 (s_recv_end_34 cp n p0 p1 v27 v28 v29 v30 (fun v41 v42 => (kn v41 v42))) ke0
def l_recv_end_38 {R : Type} (cp : Nat → Nat → Bool) (n : Nat) : Nat → SRecv → Int → SRecv → Int → Int → Int → (Int → Option R) → Option R
  | 0, _, _, _, _, _, _, _ => none
  | m + 1, p0, p1, v27, v28, v29, v30, ke0 =>
    s_recv_end_36 cp n p0 p1 v27 v28 v29 v30 (fun v43 v44 => l_recv_end_38 cp n m p0 p1 v27 v28 v43 v44 ke0) (ke0 v30)
def s_recv_end_39 {R : Type} (cp : Nat → Nat → Bool) (n : Nat) (p0 : SRecv) (p1 : Int) (v27 : SRecv) (v28 : Int) (ke0 : Int → Option R) : Option R :=
  l_recv_end_38 cp n n p0 p1 v27 v28 0 p0.xNext ke0
def s_recv_end_41 {R : Type} (cp : Nat → Nat → Bool) (n : Nat) (p0 : SRecv) (p1 : Int) (v27 : SRecv) (v28 : Int) (kn : Int → Option R) : Option R :=
  s_recv_end_39 cp n p0 p1 v27 v28 (fun v45 => (kn v45))
def s_recv_end_43 {R : Type} (cp : Nat → Nat → Bool) (n : Nat) (p0 : SRecv) (p1 : Int) (v27 : SRecv) (kn : Int → Option R) : Option R :=
  s_recv_end_7 cp n p0 p1 v27 (fun v28 => s_recv_end_41 cp n p0 p1 v27 v28 (fun v46 => (kn v46)))
def s_recv_end_46 {R : Type} (cp : Nat → Nat → Bool) (n : Nat) (p0 : SRecv) (p1 : Int) (v27 : SRecv) (kn : Int → Option R) : Option R :=
  s_recv_end_43 cp n p0 p1 v27 (fun v47 => (kn v47))
def s_recv_end_48 {R : Type} (cp : Nat → Nat → Bool) (n : Nat) (p0 : SRecv) (p1 : Int) (v27 : SRecv) (kn : Int → Option R) : Option R :=
  s_recv_end_46 cp n p0 p1 v27 (fun v48 => (kn v48))
def s_recv_end_50 {R : Type} (cp : Nat → Nat → Bool) (n : Nat) (p0 : SRecv) (p1 : Int) (kn : Int → Option R) : Option R :=
  s_recv_end_3 cp n p0 p1 (fun v27 => s_recv_end_48 cp n p0 p1 v27 (fun v49 => (kn v49)))
def s_recv_end_51 {R : Type} (cp : Nat → Nat → Bool) (n : Nat) (p0 : SRecv) (p1 v50 : Int) (kr : Int → Option R) : Option R :=
  cond (decide (p0.xFin < 0)) (cond (decide (v50 ≤ p1)) (G_recv_limit cp n p0 (fun r51 => cond (decide (p1 ≤ r51)) (kr p1) (kr p0.xFin))) (kr p0.xFin)) (kr p0.xFin)
def s_recv_end_54 {R : Type} (cp : Nat → Nat → Bool) (n : Nat) (p0 : SRecv) (p1 : Int) (kr : Int → Option R) : Option R :=
  s_recv_end_50 cp n p0 p1 (fun v50 => s_recv_end_51 cp n p0 p1 v50 (fun v52 => (kr v52)))
def s_recv_end_56 {R : Type} (cp : Nat → Nat → Bool) (n : Nat) (p0 : SRecv) (p1 : Int) (kr : Int → Option R) : Option R :=
  s_recv_end_1 cp n p0 p1 (s_recv_end_54 cp n p0 p1 (fun v53 => (kr v53)))
def G_recv_end {R : Type} (cp : Nat → Nat → Bool) : Nat → SRecv → Int → (Int → Option R) → Option R
  | 0, _, _, _ => none
  | n + 1, p0, p1, k =>
    s_recv_end_56 cp n p0 p1 (fun v54 => k v54)
/-! tideway/span.may -/
def G_span_may {R : Type} (cp : Nat → Nat → Bool) : Nat → SSpan → (Bool → Option R) → Option R
  | 0, _, _ => none
  | n + 1, p0, k =>
    cond (decide (0 ≤ p0.xFrom)) (cond (decide (p0.xFrom ≤ p0.xTo)) (k (decide (p0.xTo ≤ 1125899906842624))) (k false)) (k false)
/-! tideway/span.Check -/
def s_span_Check_1 {R : Type} (cp : Nat → Nat → Bool) (n : Nat) (p0 : (List SSpan)) (kn : Option R) : Option R :=
  kn
def s_span_Check_3 {R : Type} (cp : Nat → Nat → Bool) (n : Nat) (p0 : (List SSpan)) (kn : Int → Option R) : Option R :=
  kn (p0.length : Int)
def s_span_Check_5 {R : Type} (cp : Nat → Nat → Bool) (n : Nat) (p0 : (List SSpan)) (v88 v89 : Int) (kn : Int → Option R) (kr : Option R) (ke0 : Option R) : Option R :=
  cond (decide (v89 < v88)) (cond (decide (0 ≤ v89)) (cond (decide (v89 < (p0.length : Int))) (G_span_may cp n (p0.getD (Int.toNat v89) zSpan) (fun r90 => cond (!r90) (kr) (cond (decide (((p0.getD (Int.toNat v89) zSpan).xFrom) = ((p0.getD (Int.toNat v89) zSpan).xTo))) (kr) (cond (decide (0 < v89)) (cond (decide (0 ≤ wr .i64 (v89 - 1))) (cond (decide (wr .i64 (v89 - 1) < (p0.length : Int))) (cond (decide (((p0.getD (Int.toNat v89) zSpan).xFrom) ≤ ((p0.getD (Int.toNat (wr .i64 (v89 - 1))) zSpan).xTo))) (kr) (kn (wr .i64 (v89 + 1)))) (none)) (none)) (kn (wr .i64 (v89 + 1))))))) (none)) (none)) (ke0)
def l_span_Check_10 {R : Type} (cp : Nat → Nat → Bool) (n : Nat) : Nat → (List SSpan) → Int → Int → (Option R) → (Option R) → Option R
  | 0, _, _, _, _, _ => none
  | m + 1, p0, v88, v89, kr, ke0 =>
    s_span_Check_5 cp n p0 v88 v89 (fun v91 => l_span_Check_10 cp n m p0 v88 v91 kr ke0) kr ke0
def s_span_Check_11 {R : Type} (cp : Nat → Nat → Bool) (n : Nat) (p0 : (List SSpan)) (v88 : Int) (kr : Option R) (ke0 : Option R) : Option R :=
  l_span_Check_10 cp n n p0 v88 0 kr ke0
def s_span_Check_12 {R : Type} (cp : Nat → Nat → Bool) (n : Nat) (p0 : (List SSpan)) (v88 : Int) (kn : Option R) (kr : Option R) : Option R :=
  s_span_Check_11 cp n p0 v88 kr kn
def s_span_Check_13 {R : Type} (cp : Nat → Nat → Bool) (n : Nat) (p0 : (List SSpan)) (kn : Option R) (kr : Option R) : Option R :=
  s_span_Check_3 cp n p0 (fun v88 => s_span_Check_12 cp n p0 v88 kn kr)
def s_span_Check_14 {R : Type} (cp : Nat → Nat → Bool) (n : Nat) (kr : Option R) : Option R :=
  kr
def s_span_Check_17 {R : Type} (cp : Nat → Nat → Bool) (n : Nat) (p0 : (List SSpan)) (kr : Int → Option R) : Option R :=
  s_span_Check_13 cp n p0 (s_span_Check_14 cp n (kr 0)) (kr 60)
def s_span_Check_19 {R : Type} (cp : Nat → Nat → Bool) (n : Nat) (p0 : (List SSpan)) (kr : Int → Option R) : Option R :=
  s_span_Check_1 cp n p0 (s_span_Check_17 cp n p0 (fun v92 => (kr v92)))
def G_span_Check {R : Type} (cp : Nat → Nat → Bool) : Nat → (List SSpan) → (Int → Option R) → Option R
  | 0, _, _ => none
  | n + 1, p0, k =>
    s_span_Check_19 cp n p0 (fun v93 => k v93)
/-! tideway/span.within -/
def G_span_within {R : Type} (cp : Nat → Nat → Bool) : Nat → (List SSpan) → SSpan → ((List SSpan) → SSpan → Option R) → Option R
  | 0, _, _, _ => none
  | n + 1, p0, p1, k =>
    k p0 p1
/-! tideway/span.Gaps -/
def s_span_Gaps_1 {R : Type} (cp : Nat → Nat → Bool) (n : Nat) (p0 : (List SSpan)) (p1 : SSpan) (kn : Option R) (kr : Option R) : Option R :=
  G_span_Check cp n p0 (fun r96 => cond (!decide (r96 = 0)) (kr) (cond (decide (p1.xTo ≤ p1.xFrom)) (kr) (kn)))
def s_span_Gaps_4 {R : Type} (cp : Nat → Nat → Bool) (n : Nat) (p0 : (List SSpan)) (p1 : SSpan) (kn : (List SSpan) → Int → Int → Option R) : Option R :=
  G_span_within cp n p0 p1 (fun r97 r98 => kn r97 r98.xFrom r98.xTo)
def s_span_Gaps_8 {R : Type} (cp : Nat → Nat → Bool) (n : Nat) (p1 : SSpan) (v99 : (List SSpan)) (v100 v101 : Int) (kn : Int → Option R) : Option R :=
  kn (v99.length : Int)
def s_span_Gaps_10 {R : Type} (cp : Nat → Nat → Bool) (n : Nat) (p1 : SSpan) (v99 : (List SSpan)) (v100 v101 v102 v103 : Int) (v104 : (List SSpan)) (v105 : Int) (kn : Option R) (ke0 : Option R) : Option R :=
  cond (decide (v103 < v102)) (kn) (ke0)
def s_span_Gaps_13 {R : Type} (cp : Nat → Nat → Bool) (n : Nat) (p1 : SSpan) (v99 : (List SSpan)) (v100 v101 v102 v103 : Int) (v104 : (List SSpan)) (v105 : Int) (kn : Int → Int → Option R) : Option R :=
  cond (decide (0 ≤ v103)) (cond (decide (v103 < (v99.length : Int))) (kn (mx ((v99.getD (Int.toNat v103) zSpan).xFrom) v100) (mn ((v99.getD (Int.toNat v103) zSpan).xTo) v101)) (none)) (none)
def s_span_Gaps_15 {R : Type} (cp : Nat → Nat → Bool) (n : Nat) (p1 : SSpan) (v99 : (List SSpan)) (v100 v101 v102 v103 : Int) (v104 : (List SSpan)) (v105 v106 v107 : Int) (ka : Bool → Option R) (kb : Bool → Option R) : Option R :=
  cond (decide (v106 < v107)) (ka (decide (v106 < v107))) (kb (decide (v106 < v107)))
def s_span_Gaps_18 {R : Type} (cp : Nat → Nat → Bool) (n : Nat) (p1 : SSpan) (v99 : (List SSpan)) (v100 v101 : Int) (v104 : (List SSpan)) (v105 v106 v107 : Int) (kn : (List SSpan) → Option R) : Option R :=
  cond (decide (v105 < v106)) (cond (cp (v104.length + [(SSpan.mk v105 v106)].length) 16) (kn (v104 ++ [(SSpan.mk v105 v106)])) (none)) (kn v104)
def s_span_Gaps_24 {R : Type} (cp : Nat → Nat → Bool) (n : Nat) (p1 : SSpan) (v99 : (List SSpan)) (v100 v101 v102 v103 : Int) (v104 : (List SSpan)) (v105 v106 v107 : Int) (kn : (List SSpan) → Int → Option R) : Option R :=
  s_span_Gaps_15 cp n p1 v99 v100 v101 v102 v103 v104 v105 v106 v107 (fun v108 => s_span_Gaps_18 cp n p1 v99 v100 v101 v104 v105 v106 v107 (fun v110 => kn v110 v107)) (fun v109 => kn v104 v105)
def s_span_Gaps_25 {R : Type} (cp : Nat → Nat → Bool) (n : Nat) (p1 : SSpan) (v99 : (List SSpan)) (v100 v101 v102 v103 : Int) (v111 : (List SSpan)) (v112 : Int) (kn : Option R) : Option R :=
  kn
def s_span_Gaps_28 {R : Type} (cp : Nat → Nat → Bool) (n : Nat) (p1 : SSpan) (v99 : (List SSpan)) (v100 v101 v102 v103 : Int) (v104 : (List SSpan)) (v105 v106 v107 : Int) (kn : (List SSpan) → Int → Option R) : Option R :=
  s_span_Gaps_24 cp n p1 v99 v100 v101 v102 v103 v104 v105 v106 v107 (fun v111 v112 => s_span_Gaps_25 cp n p1 v99 v100 v101 v102 v103 v111 v112 (kn v111 v112))
def s_span_Gaps_30 {R : Type} (cp : Nat → Nat → Bool) (n : Nat) (p1 : SSpan) (v99 : (List SSpan)) (v100 v101 v102 v103 : Int) (v104 : (List SSpan)) (v105 : Int) (kn : (List SSpan) → Int → Option R) : Option R :=
  s_span_Gaps_13 cp n p1 v99 v100 v101 v102 v103 v104 v105 (fun v106 v107 => s_span_Gaps_28 cp n p1 v99 v100 v101 v102 v103 v104 v105 v106 v107 (fun v113 v114 => (kn v113 v114)))
def s_span_Gaps_32 {R : Type} (cp : Nat → Nat → Bool) (n : Nat) (p1 : SSpan) (v99 : (List SSpan)) (v100 v101 v102 v103 : Int) (v104 : (List SSpan)) (v105 : Int) (kn : (List SSpan) → Int → Option R) : Option R :=
  s_span_Gaps_30 cp n p1 v99 v100 v101 v102 v103 v104 v105 (fun v115 v116 => (kn v115 v116))
def s_span_Gaps_33 {R : Type} (cp : Nat → Nat → Bool) (n : Nat) (p1 : SSpan) (v99 : (List SSpan)) (v100 v101 v102 v103 : Int) (v117 : (List SSpan)) (v118 : Int) (kn : Int → Option R) : Option R :=
  kn (wr .i64 (v103 + 1))
def s_span_Gaps_36 {R : Type} (cp : Nat → Nat → Bool) (n : Nat) (p1 : SSpan) (v99 : (List SSpan)) (v100 v101 v102 v103 : Int) (v104 : (List SSpan)) (v105 : Int) (kn : Int → (List SSpan) → Int → Option R) : Option R :=
  s_span_Gaps_32 cp n p1 v99 v100 v101 v102 v103 v104 v105 (fun v117 v118 => s_span_Gaps_33 cp n p1 v99 v100 v101 v102 v103 v117 v118 (fun v119 => (kn v119 v117 v118)))
def s_span_Gaps_38 {R : Type} (cp : Nat → Nat → Bool) (n : Nat) (p1 : SSpan) (v99 : (List SSpan)) (v100 v101 v102 v103 : Int) (v104 : (List SSpan)) (v105 : Int) (kn : Int → (List SSpan) → Int → Option R) (ke0 : Option R) : Option R :=
  s_span_Gaps_10 cp n p1 v99 v100 v101 v102 v103 v104 v105 (s_span_Gaps_36 cp n p1 v99 v100 v101 v102 v103 v104 v105 (fun v120 v121 v122 => (kn v120 v121 v122))) ke0
def l_span_Gaps_40 {R : Type} (cp : Nat → Nat → Bool) (n : Nat) : Nat → SSpan → (List SSpan) → Int → Int → Int → Int → (List SSpan) → Int → ((List SSpan) → Int → Option R) → Option R
  | 0, _, _, _, _, _, _, _, _, _ => none
  | m + 1, p1, v99, v100, v101, v102, v103, v104, v105, ke0 =>
    s_span_Gaps_38 cp n p1 v99 v100 v101 v102 v103 v104 v105 (fun v123 v124 v125 => l_span_Gaps_40 cp n m p1 v99 v100 v101 v102 v123 v124 v125 ke0) (ke0 v104 v105)
def s_span_Gaps_41 {R : Type} (cp : Nat → Nat → Bool) (n : Nat) (p1 : SSpan) (v99 : (List SSpan)) (v100 v101 v102 : Int) (ke0 : (List SSpan) → Int → Option R) : Option R :=
  l_span_Gaps_40 cp n n p1 v99 v100 v101 v102 0 [] p1.xFrom ke0
def s_span_Gaps_43 {R : Type} (cp : Nat → Nat → Bool) (n : Nat) (p1 : SSpan) (v99 : (List SSpan)) (v100 v101 v102 : Int) (kn : (List SSpan) → Int → Option R) : Option R :=
  s_span_Gaps_41 cp n p1 v99 v100 v101 v102 (fun v126 v127 => (kn v126 v127))
def s_span_Gaps_45 {R : Type} (cp : Nat → Nat → Bool) (n : Nat) (p1 : SSpan) (v99 : (List SSpan)) (v100 v101 : Int) (kn : (List SSpan) → Int → Option R) : Option R :=
  s_span_Gaps_8 cp n p1 v99 v100 v101 (fun v102 => s_span_Gaps_43 cp n p1 v99 v100 v101 v102 (fun v128 v129 => (kn v128 v129)))
def s_span_Gaps_48 {R : Type} (cp : Nat → Nat → Bool) (n : Nat) (p1 : SSpan) (v99 : (List SSpan)) (v100 v101 : Int) (kn : (List SSpan) → Int → Option R) : Option R :=
  s_span_Gaps_45 cp n p1 v99 v100 v101 (fun v130 v131 => (kn v130 v131))
def s_span_Gaps_50 {R : Type} (cp : Nat → Nat → Bool) (n : Nat) (p1 : SSpan) (v99 : (List SSpan)) (v100 v101 : Int) (kn : (List SSpan) → Int → Option R) : Option R :=
  s_span_Gaps_48 cp n p1 v99 v100 v101 (fun v132 v133 => (kn v132 v133))
def s_span_Gaps_52 {R : Type} (cp : Nat → Nat → Bool) (n : Nat) (p0 : (List SSpan)) (p1 : SSpan) (kn : (List SSpan) → Int → Option R) : Option R :=
  s_span_Gaps_4 cp n p0 p1 (fun v99 v100 v101 => s_span_Gaps_50 cp n p1 v99 v100 v101 (fun v134 v135 => (kn v134 v135)))
def s_span_Gaps_53 {R : Type} (cp : Nat → Nat → Bool) (n : Nat) (p1 : SSpan) (v136 : (List SSpan)) (v137 : Int) (kr : (List SSpan) → Option R) : Option R :=
  cond (decide (v137 < p1.xTo)) (cond (cp (v136.length + [(SSpan.mk v137 p1.xTo)].length) 16) (kr (v136 ++ [(SSpan.mk v137 p1.xTo)])) (none)) (kr v136)
def s_span_Gaps_56 {R : Type} (cp : Nat → Nat → Bool) (n : Nat) (p0 : (List SSpan)) (p1 : SSpan) (kr : (List SSpan) → Option R) : Option R :=
  s_span_Gaps_52 cp n p0 p1 (fun v136 v137 => s_span_Gaps_53 cp n p1 v136 v137 (fun v138 => (kr v138)))
def s_span_Gaps_58 {R : Type} (cp : Nat → Nat → Bool) (n : Nat) (p0 : (List SSpan)) (p1 : SSpan) (kr : (List SSpan) → Option R) : Option R :=
  s_span_Gaps_1 cp n p0 p1 (s_span_Gaps_56 cp n p0 p1 (fun v139 => (kr v139))) (kr [])
def G_span_Gaps {R : Type} (cp : Nat → Nat → Bool) : Nat → (List SSpan) → SSpan → ((List SSpan) → Option R) → Option R
  | 0, _, _, _ => none
  | n + 1, p0, p1, k =>
    s_span_Gaps_58 cp n p0 p1 (fun v140 => k v140)
/-! tideway/recv.put$1 -/
def G_recv_put_1 {R : Type} (cp : Nat → Nat → Bool) : Nat → SPiece → Int → (Int → Option R) → Option R
  | 0, _, _, _ => none
  | n + 1, p0, p1, k =>
    k (wr .i64 (p0.xFrom - p1))
/-! slices.BinarySearchFunc[[]tideway/api.Piece,tideway/api.Piece,int] -/
def s_slices_BinarySearchFunc_Piece_1 {R : Type} (cp : Nat → Nat → Bool) (n : Nat) (p0 : (List SPiece)) (p1 : Int) (kn : Int → Option R) : Option R :=
  kn (p0.length : Int)
def s_slices_BinarySearchFunc_Piece_3 {R : Type} (cp : Nat → Nat → Bool) (n : Nat) (p0 : (List SPiece)) (p1 v144 v145 v146 : Int) (kn : Int → Int → Option R) (ke0 : Option R) : Option R :=
  cond (decide (v145 < v146)) (cond (decide (0 ≤ wr .i64 (shr .u64 (wr .u64 (wr .i64 (v145 + v146))) 1))) (cond (decide (wr .i64 (shr .u64 (wr .u64 (wr .i64 (v145 + v146))) 1) < (p0.length : Int))) (G_recv_put_1 cp n (p0.getD (Int.toNat (wr .i64 (shr .u64 (wr .u64 (wr .i64 (v145 + v146))) 1))) zPiece) p1 (fun r147 => cond (decide (r147 < 0)) (kn (wr .i64 ((wr .i64 (shr .u64 (wr .u64 (wr .i64 (v145 + v146))) 1)) + 1)) v146) (kn v145 (wr .i64 (shr .u64 (wr .u64 (wr .i64 (v145 + v146))) 1))))) (none)) (none)) (ke0)
def l_slices_BinarySearchFunc_Piece_8 {R : Type} (cp : Nat → Nat → Bool) (n : Nat) : Nat → (List SPiece) → Int → Int → Int → Int → (Int → Option R) → Option R
  | 0, _, _, _, _, _, _ => none
  | m + 1, p0, p1, v144, v145, v146, ke0 =>
    s_slices_BinarySearchFunc_Piece_3 cp n p0 p1 v144 v145 v146 (fun v148 v149 => l_slices_BinarySearchFunc_Piece_8 cp n m p0 p1 v144 v148 v149 ke0) (ke0 v145)
def s_slices_BinarySearchFunc_Piece_9 {R : Type} (cp : Nat → Nat → Bool) (n : Nat) (p0 : (List SPiece)) (p1 v144 : Int) (ke0 : Int → Option R) : Option R :=
  l_slices_BinarySearchFunc_Piece_8 cp n n p0 p1 v144 0 v144 ke0
def s_slices_BinarySearchFunc_Piece_11 {R : Type} (cp : Nat → Nat → Bool) (n : Nat) (p0 : (List SPiece)) (p1 v144 : Int) (kn : Int → Option R) : Option R :=
  s_slices_BinarySearchFunc_Piece_9 cp n p0 p1 v144 (fun v150 => (kn v150))
def s_slices_BinarySearchFunc_Piece_12 {R : Type} (cp : Nat → Nat → Bool) (n : Nat) (p0 : (List SPiece)) (p1 v144 v151 : Int) (kr : Bool → Option R) : Option R :=
  cond (decide (v151 < v144)) (cond (decide (0 ≤ v151)) (cond (decide (v151 < (p0.length : Int))) (G_recv_put_1 cp n (p0.getD (Int.toNat v151) zPiece) p1 (fun r152 => kr (decide (r152 = 0)))) (none)) (none)) (kr false)
def s_slices_BinarySearchFunc_Piece_15 {R : Type} (cp : Nat → Nat → Bool) (n : Nat) (p0 : (List SPiece)) (p1 v144 : Int) (kr : Int → Bool → Option R) : Option R :=
  s_slices_BinarySearchFunc_Piece_11 cp n p0 p1 v144 (fun v151 => s_slices_BinarySearchFunc_Piece_12 cp n p0 p1 v144 v151 (fun v153 => (kr v151 v153)))
def s_slices_BinarySearchFunc_Piece_17 {R : Type} (cp : Nat → Nat → Bool) (n : Nat) (p0 : (List SPiece)) (p1 : Int) (kr : Int → Bool → Option R) : Option R :=
  s_slices_BinarySearchFunc_Piece_1 cp n p0 p1 (fun v144 => s_slices_BinarySearchFunc_Piece_15 cp n p0 p1 v144 (fun v154 v155 => (kr v154 v155)))
def G_slices_BinarySearchFunc_Piece {R : Type} (cp : Nat → Nat → Bool) : Nat → (List SPiece) → Int → (Int → Bool → Option R) → Option R
  | 0, _, _, _ => none
  | n + 1, p0, p1, k =>
    s_slices_BinarySearchFunc_Piece_17 cp n p0 p1 (fun v156 v157 => k v156 v157)
/-! slices.Clone[[]tideway/api.Piece,tideway/api.Piece] -/
def G_slices_Clone_Piece {R : Type} (cp : Nat → Nat → Bool) : Nat → (List SPiece) → ((List SPiece) → Option R) → Option R
  | 0, _, _ => none
  | n + 1, p0, k => cond (cp (0 + p0.length) 32) (k p0) none
/-! slices.Insert[[]tideway/api.Piece,tideway/api.Piece] -/
def G_slices_Insert_Piece {R : Type} (cp : Nat → Nat → Bool) : Nat → (List SPiece) → Int → SPiece → ((List SPiece) → Option R) → Option R
  | 0, _, _, _, _ => none
  | n + 1, p0, p1, p2, k => cond (cp (p0.length + 1) 32) (cond (decide (0 ≤ p1)) (cond (decide (p1 ≤ (p0.length : Int))) (k (insL p0 (Int.toNat p1) p2)) none) none) none
/-! slices.Clip[[]byte,byte] -/
def G_slices_Clip_byte {R : Type} (cp : Nat → Nat → Bool) : Nat → (List Int) → ((List Int) → Option R) → Option R
  | 0, _, _ => none
  | n + 1, p0, k =>
    cond (decide (0 ≤ (p0.length : Int))) (cond (decide ((p0.length : Int) ≤ (p0.length : Int))) (cond (decide ((p0.length : Int) = (p0.length : Int))) (k (p0.take (Int.toNat (p0.length : Int)))) (none)) (none)) (none)
/-! tideway/recv.put -/
def s_recv_put_1 {R : Type} (cp : Nat → Nat → Bool) (n : Nat) (p0 : (List SPiece)) (p1 : SPiece) (kn : (List SPiece) → Option R) : Option R :=
  G_slices_BinarySearchFunc_Piece cp n p0 p1.xFrom (fun r170 r171 => G_slices_Clone_Piece cp n p0 (fun r172 => G_bytes_Clone cp n p1.xData (fun r173 => G_slices_Insert_Piece cp n r172 r170 (SPiece.mk p1.xFrom r173) (fun r174 => kn r174))))
def s_recv_put_3 {R : Type} (cp : Nat → Nat → Bool) (n : Nat) (v175 : (List SPiece)) (kn : Int → Option R) : Option R :=
  kn (v175.length : Int)
def s_recv_put_5 {R : Type} (cp : Nat → Nat → Bool) (n : Nat) (v175 : (List SPiece)) (v176 : Int) (v177 : (List SPiece)) (v178 : Int) (kn : (List SPiece) → Int → Option R) (ke0 : Option R) : Option R :=
  cond (decide (v178 < v176)) (cond (decide (0 ≤ v178)) (cond (decide (v178 < (v175.length : Int))) (cond (decide (0 < (v177.length : Int))) (cond (decide (0 ≤ wr .i64 ((v177.length : Int) - 1))) (cond (decide (wr .i64 ((v177.length : Int) - 1) < (v177.length : Int))) (cond (decide ((Int.toNat (wr .i64 ((v177.length : Int) - 1))) < v177.length)) (G_recv_of cp n (v177.getD (Int.toNat (wr .i64 ((v177.length : Int) - 1))) zPiece) (fun r179 => cond (decide (r179.xTo = ((v175.getD (Int.toNat v178) zPiece).xFrom))) (cond (decide (0 ≤ wr .i64 ((v177.length : Int) - 1))) (cond (decide (wr .i64 ((v177.length : Int) - 1) < (v177.length : Int))) (cond (decide ((Int.toNat (wr .i64 ((v177.length : Int) - 1))) < v177.length)) (G_slices_Clip_byte cp n ((v177.getD (Int.toNat (wr .i64 ((v177.length : Int) - 1))) zPiece).xData) (fun r180 => cond (cp (r180.length + ((v175.getD (Int.toNat v178) zPiece).xData).length) 1) (cond (decide (0 ≤ wr .i64 ((v177.length : Int) - 1))) (cond (decide (wr .i64 ((v177.length : Int) - 1) < (v177.length : Int))) (cond (decide ((Int.toNat (wr .i64 ((v177.length : Int) - 1))) < v177.length)) (kn (v177.set (Int.toNat (wr .i64 ((v177.length : Int) - 1))) (SPiece.mk ((v177.getD (Int.toNat (wr .i64 ((v177.length : Int) - 1))) zPiece).xFrom) (r180 ++ ((v175.getD (Int.toNat v178) zPiece).xData)))) (wr .i64 (v178 + 1))) (none)) (none)) (none)) (none))) (none)) (none)) (none)) (cond (cp (v177.length + [(v175.getD (Int.toNat v178) zPiece)].length) 32) (kn (v177 ++ [(v175.getD (Int.toNat v178) zPiece)]) (wr .i64 (v178 + 1))) (none)))) (none)) (none)) (none)) (cond (cp (v177.length + [(v175.getD (Int.toNat v178) zPiece)].length) 32) (kn (v177 ++ [(v175.getD (Int.toNat v178) zPiece)]) (wr .i64 (v178 + 1))) (none))) (none)) (none)) (ke0)
def l_recv_put_10 {R : Type} (cp : Nat → Nat → Bool) (n : Nat) : Nat → (List SPiece) → Int → (List SPiece) → Int → ((List SPiece) → Option R) → Option R
  | 0, _, _, _, _, _ => none
  | m + 1, v175, v176, v177, v178, ke0 =>
    s_recv_put_5 cp n v175 v176 v177 v178 (fun v181 v182 => l_recv_put_10 cp n m v175 v176 v181 v182 ke0) (ke0 v177)
def s_recv_put_11 {R : Type} (cp : Nat → Nat → Bool) (n : Nat) (v175 : (List SPiece)) (v176 : Int) (ke0 : (List SPiece) → Option R) : Option R :=
  l_recv_put_10 cp n n v175 v176 [] 0 ke0
def s_recv_put_13 {R : Type} (cp : Nat → Nat → Bool) (n : Nat) (v175 : (List SPiece)) (v176 : Int) (kn : (List SPiece) → Option R) : Option R :=
  s_recv_put_11 cp n v175 v176 (fun v183 => (kn v183))
def s_recv_put_15 {R : Type} (cp : Nat → Nat → Bool) (n : Nat) (v175 : (List SPiece)) (kn : (List SPiece) → Option R) : Option R :=
  s_recv_put_3 cp n v175 (fun v176 => s_recv_put_13 cp n v175 v176 (fun v184 => (kn v184)))
def s_recv_put_16 {R : Type} (cp : Nat → Nat → Bool) (n : Nat) (v185 : (List SPiece)) (kr : Option R) : Option R :=
  kr
def s_recv_put_19 {R : Type} (cp : Nat → Nat → Bool) (n : Nat) (v175 : (List SPiece)) (kr : (List SPiece) → Option R) : Option R :=
  s_recv_put_15 cp n v175 (fun v185 => s_recv_put_16 cp n v185 (kr v185))
def s_recv_put_21 {R : Type} (cp : Nat → Nat → Bool) (n : Nat) (p0 : (List SPiece)) (p1 : SPiece) (kr : (List SPiece) → Option R) : Option R :=
  s_recv_put_1 cp n p0 p1 (fun v175 => s_recv_put_19 cp n v175 (fun v186 => (kr v186)))
def G_recv_put {R : Type} (cp : Nat → Nat → Bool) : Nat → (List SPiece) → SPiece → ((List SPiece) → Option R) → Option R
  | 0, _, _, _ => none
  | n + 1, p0, p1, k =>
    s_recv_put_21 cp n p0 p1 (fun v187 => k v187)
/-! tideway/recv.take$1 -/
def G_recv_take_1 {R : Type} (cp : Nat → Nat → Bool) : Nat → SSpan → SRecv → Int → (List Int) → Bool → (SRecv → Int → (List Int) → Bool → Option R) → Option R
  | 0, _, _, _, _, _, _ => none
  | n + 1, p0, q0, q1, q2, q3, k =>
    cond (decide (0 ≤ wr .i64 (p0.xFrom - q1))) (cond (decide (wr .i64 (p0.xFrom - q1) ≤ wr .i64 (p0.xTo - q1))) (cond (decide (wr .i64 (p0.xTo - q1) ≤ (q2.length : Int))) (G_recv_put cp n q0.xLate (SPiece.mk p0.xFrom (List.take ((Int.toNat (wr .i64 (p0.xTo - q1))) - (Int.toNat (wr .i64 (p0.xFrom - q1)))) (q2.drop (Int.toNat (wr .i64 (p0.xFrom - q1)))))) (fun r188 => k (SRecv.mk q0.xNext q0.xUnread r188 q0.xCap q0.xShift q0.xEdge q0.xRecent q0.xStamps q0.xSacks q0.xFin q0.xDone q0.xFirst q0.xIrs q0.xOwn q0.xStamp) q1 q2 true)) (none)) (none)) (none)
/-! tideway/recv.take -/
def s_recv_take_1 {R : Type} (cp : Nat → Nat → Bool) (n : Nat) (p0 : SRecv) (p1 : Int) (p2 : (List Int)) (kn : Int → Option R) : Option R :=
  G_recv_limit cp n p0 (fun r171 => cond (decide (0 ≤ p0.xFin)) (kn (mn (mn (wr .i64 (p1 + (p2.length : Int))) r171) p0.xFin)) (kn (mn (wr .i64 (p1 + (p2.length : Int))) r171)))
def s_recv_take_3 {R : Type} (cp : Nat → Nat → Bool) (n : Nat) (p0 : SRecv) (p1 : Int) (p2 : (List Int)) (v172 : Int) (kn : SRecv → Option R) : Option R :=
  G_recv_late cp n p0 (fun r173 => kn r173)
def s_recv_take_7 {R : Type} (cp : Nat → Nat → Bool) (n : Nat) (p0 : SRecv) (p1 : Int) (p2 : (List Int)) (v172 : Int) (v174 : SRecv) (kn : Int → Option R) : Option R :=
  kn (v174.xLate.length : Int)
def s_recv_take_9 {R : Type} (cp : Nat → Nat → Bool) (n : Nat) (p0 : SRecv) (p1 : Int) (p2 : (List Int)) (v172 : Int) (v174 : SRecv) (v175 v176 : Int) (v177 : (List SSpan)) (kn : Option R) (ke0 : Option R) : Option R :=
  cond (decide (v176 < v175)) (kn) (ke0)
def s_recv_take_12 {R : Type} (cp : Nat → Nat → Bool) (n : Nat) (p0 : SRecv) (p1 : Int) (p2 : (List Int)) (v172 : Int) (v174 : SRecv) (v175 v176 : Int) (v177 : (List SSpan)) (kn : Int → (List Int) → Option R) : Option R :=
  cond (decide (0 ≤ v176)) (cond (decide (v176 < (v174.xLate.length : Int))) (kn ((v174.xLate.getD (Int.toNat v176) zPiece).xFrom) ((v174.xLate.getD (Int.toNat v176) zPiece).xData)) (none)) (none)
def s_recv_take_14 {R : Type} (cp : Nat → Nat → Bool) (n : Nat) (p0 : SRecv) (p1 : Int) (p2 : (List Int)) (v172 : Int) (v174 : SRecv) (v175 v176 : Int) (v177 : (List SSpan)) (v178 : Int) (v179 : (List Int)) (ka : Int → Int → Option R) : Option R :=
  G_recv_of cp n (SPiece.mk v178 v179) (fun r180 => ka r180.xFrom r180.xTo)
def s_recv_take_16 {R : Type} (cp : Nat → Nat → Bool) (n : Nat) (p0 : SRecv) (p1 : Int) (p2 : (List Int)) (v172 : Int) (v174 : SRecv) (v177 : (List SSpan)) (v178 : Int) (v179 : (List Int)) (v181 v182 : Int) (kn : (List SSpan) → Option R) : Option R :=
  cond (cp (v177.length + [(SSpan.mk v181 v182)].length) 16) (kn (v177 ++ [(SSpan.mk v181 v182)])) (none)
def s_recv_take_22 {R : Type} (cp : Nat → Nat → Bool) (n : Nat) (p0 : SRecv) (p1 : Int) (p2 : (List Int)) (v172 : Int) (v174 : SRecv) (v175 v176 : Int) (v177 : (List SSpan)) (v178 : Int) (v179 : (List Int)) (kn : (List SSpan) → Option R) : Option R :=
  s_recv_take_14 cp n p0 p1 p2 v172 v174 v175 v176 v177 v178 v179 (fun v181 v182 => s_recv_take_16 cp n p0 p1 p2 v172 v174 v177 v178 v179 v181 v182 (fun v183 => kn v183))
def s_recv_take_23 {R : Type} (cp : Nat → Nat → Bool) (n : Nat) (p0 : SRecv) (p1 : Int) (p2 : (List Int)) (v172 : Int) (v174 : SRecv) (v175 v176 : Int) (v184 : (List SSpan)) (kn : Option R) : Option R :=
  kn
def s_recv_take_26 {R : Type} (cp : Nat → Nat → Bool) (n : Nat) (p0 : SRecv) (p1 : Int) (p2 : (List Int)) (v172 : Int) (v174 : SRecv) (v175 v176 : Int) (v177 : (List SSpan)) (v178 : Int) (v179 : (List Int)) (kn : (List SSpan) → Option R) : Option R :=
  s_recv_take_22 cp n p0 p1 p2 v172 v174 v175 v176 v177 v178 v179 (fun v184 => s_recv_take_23 cp n p0 p1 p2 v172 v174 v175 v176 v184 (kn v184))
def s_recv_take_28 {R : Type} (cp : Nat → Nat → Bool) (n : Nat) (p0 : SRecv) (p1 : Int) (p2 : (List Int)) (v172 : Int) (v174 : SRecv) (v175 v176 : Int) (v177 : (List SSpan)) (kn : (List SSpan) → Option R) : Option R :=
  s_recv_take_12 cp n p0 p1 p2 v172 v174 v175 v176 v177 (fun v178 v179 => s_recv_take_26 cp n p0 p1 p2 v172 v174 v175 v176 v177 v178 v179 (fun v185 => (kn v185)))
def s_recv_take_30 {R : Type} (cp : Nat → Nat → Bool) (n : Nat) (p0 : SRecv) (p1 : Int) (p2 : (List Int)) (v172 : Int) (v174 : SRecv) (v175 v176 : Int) (v177 : (List SSpan)) (kn : (List SSpan) → Option R) : Option R :=
  s_recv_take_28 cp n p0 p1 p2 v172 v174 v175 v176 v177 (fun v186 => (kn v186))
def s_recv_take_31 {R : Type} (cp : Nat → Nat → Bool) (n : Nat) (p0 : SRecv) (p1 : Int) (p2 : (List Int)) (v172 : Int) (v174 : SRecv) (v175 v176 : Int) (v187 : (List SSpan)) (kn : Int → Option R) : Option R :=
  kn (wr .i64 (v176 + 1))
def s_recv_take_34 {R : Type} (cp : Nat → Nat → Bool) (n : Nat) (p0 : SRecv) (p1 : Int) (p2 : (List Int)) (v172 : Int) (v174 : SRecv) (v175 v176 : Int) (v177 : (List SSpan)) (kn : Int → (List SSpan) → Option R) : Option R :=
  s_recv_take_30 cp n p0 p1 p2 v172 v174 v175 v176 v177 (fun v187 => s_recv_take_31 cp n p0 p1 p2 v172 v174 v175 v176 v187 (fun v188 => (kn v188 v187)))
def s_recv_take_36 {R : Type} (cp : Nat → Nat → Bool) (n : Nat) (p0 : SRecv) (p1 : Int) (p2 : (List Int)) (v172 : Int) (v174 : SRecv) (v175 v176 : Int) (v177 : (List SSpan)) (kn : Int → (List SSpan) → Option R) (ke0 : Option R) : Option R :=
  s_recv_take_9 cp n p0 p1 p2 v172 v174 v175 v176 v177 (s_recv_take_34 cp n p0 p1 p2 v172 v174 v175 v176 v177 (fun v189 v190 => (kn v189 v190))) ke0
def l_recv_take_38 {R : Type} (cp : Nat → Nat → Bool) (n : Nat) : Nat → SRecv → Int → (List Int) → Int → SRecv → Int → Int → (List SSpan) → ((List SSpan) → Option R) → Option R
  | 0, _, _, _, _, _, _, _, _, _ => none
  | m + 1, p0, p1, p2, v172, v174, v175, v176, v177, ke0 =>
    s_recv_take_36 cp n p0 p1 p2 v172 v174 v175 v176 v177 (fun v191 v192 => l_recv_take_38 cp n m p0 p1 p2 v172 v174 v175 v191 v192 ke0) (ke0 v177)
def s_recv_take_39 {R : Type} (cp : Nat → Nat → Bool) (n : Nat) (p0 : SRecv) (p1 : Int) (p2 : (List Int)) (v172 : Int) (v174 : SRecv) (v175 : Int) (ke0 : (List SSpan) → Option R) : Option R :=
  l_recv_take_38 cp n n p0 p1 p2 v172 v174 v175 0 [] ke0
def s_recv_take_41 {R : Type} (cp : Nat → Nat → Bool) (n : Nat) (p0 : SRecv) (p1 : Int) (p2 : (List Int)) (v172 : Int) (v174 : SRecv) (v175 : Int) (kn : (List SSpan) → Option R) : Option R :=
  s_recv_take_39 cp n p0 p1 p2 v172 v174 v175 (fun v193 => (kn v193))
def s_recv_take_43 {R : Type} (cp : Nat → Nat → Bool) (n : Nat) (p0 : SRecv) (p1 : Int) (p2 : (List Int)) (v172 : Int) (v174 : SRecv) (kn : (List SSpan) → Option R) : Option R :=
  s_recv_take_7 cp n p0 p1 p2 v172 v174 (fun v175 => s_recv_take_41 cp n p0 p1 p2 v172 v174 v175 (fun v194 => (kn v194)))
def s_recv_take_46 {R : Type} (cp : Nat → Nat → Bool) (n : Nat) (p0 : SRecv) (p1 : Int) (p2 : (List Int)) (v172 : Int) (v174 : SRecv) (kn : (List SSpan) → Option R) : Option R :=
  s_recv_take_43 cp n p0 p1 p2 v172 v174 (fun v195 => (kn v195))
def s_recv_take_48 {R : Type} (cp : Nat → Nat → Bool) (n : Nat) (p0 : SRecv) (p1 : Int) (p2 : (List Int)) (v172 : Int) (v174 : SRecv) (kn : (List SSpan) → Option R) : Option R :=
  s_recv_take_46 cp n p0 p1 p2 v172 v174 (fun v196 => (kn v196))
def s_recv_take_50 {R : Type} (cp : Nat → Nat → Bool) (n : Nat) (p0 : SRecv) (p1 : Int) (p2 : (List Int)) (v172 : Int) (kn : (List SSpan) → Option R) : Option R :=
  s_recv_take_3 cp n p0 p1 p2 v172 (fun v174 => s_recv_take_48 cp n p0 p1 p2 v172 v174 (fun v197 => (kn v197)))
def s_recv_take_51 {R : Type} (cp : Nat → Nat → Bool) (n : Nat) (p0 : SRecv) (p1 : Int) (p2 : (List Int)) (v172 : Int) (v198 : (List SSpan)) (kn : Option R) : Option R :=
  kn
def s_recv_take_53 {R : Type} (cp : Nat → Nat → Bool) (n : Nat) (p0 : SRecv) (p1 : Int) (p2 : (List Int)) (v172 : Int) (v198 : (List SSpan)) (kn : Int → Bool → Option R) : Option R :=
  kn (mx p1 p0.xNext) (decide ((mx p1 p0.xNext) < v172))
def s_recv_take_55 {R : Type} (cp : Nat → Nat → Bool) (n : Nat) (p0 : SRecv) (p1 : Int) (p2 : (List Int)) (v172 : Int) (v198 : (List SSpan)) (v199 : Int) (v200 : Bool) (kn : (List SSpan) → Int → Option R) : Option R :=
  G_span_Gaps cp n v198 (SSpan.mk v199 v172) (fun r201 => kn r201 (r201.length : Int))
def s_recv_take_57 {R : Type} (cp : Nat → Nat → Bool) (n : Nat) (v202 : (List SSpan)) (v203 v204 : Int) (v205 : SRecv) (v206 : Int) (v207 : (List Int)) (v208 : Bool) (kn : Int → SRecv → Int → (List Int) → Bool → Option R) (ke2 : Option R) : Option R :=
  cond (decide (v204 < v203)) (cond (decide (0 ≤ v204)) (cond (decide (v204 < (v202.length : Int))) (G_recv_take_1 cp n (v202.getD (Int.toNat v204) zSpan) v205 v206 v207 v208 (fun r209 r210 r211 r212 => kn (wr .i64 (v204 + 1)) r209 r210 r211 r212)) (none)) (none)) (ke2)
def l_recv_take_62 {R : Type} (cp : Nat → Nat → Bool) (n : Nat) : Nat → (List SSpan) → Int → Int → SRecv → Int → (List Int) → Bool → (SRecv → Bool → Option R) → Option R
  | 0, _, _, _, _, _, _, _, _ => none
  | m + 1, v202, v203, v204, v205, v206, v207, v208, ke2 =>
    s_recv_take_57 cp n v202 v203 v204 v205 v206 v207 v208 (fun v213 v214 v215 v216 v217 => l_recv_take_62 cp n m v202 v203 v213 v214 v215 v216 v217 ke2) (ke2 v205 v208)
def s_recv_take_63 {R : Type} (cp : Nat → Nat → Bool) (n : Nat) (p0 : SRecv) (p1 : Int) (p2 : (List Int)) (v202 : (List SSpan)) (v203 : Int) (ke2 : SRecv → Bool → Option R) : Option R :=
  l_recv_take_62 cp n n v202 v203 0 p0 p1 p2 false ke2
def s_recv_take_65 {R : Type} (cp : Nat → Nat → Bool) (n : Nat) (p0 : SRecv) (p1 : Int) (p2 : (List Int)) (v202 : (List SSpan)) (v203 : Int) (kn : SRecv → Bool → Option R) : Option R :=
  s_recv_take_63 cp n p0 p1 p2 v202 v203 (fun v218 v219 => (kn v218 v219))
def s_recv_take_67 {R : Type} (cp : Nat → Nat → Bool) (n : Nat) (p0 : SRecv) (p1 : Int) (p2 : (List Int)) (v172 : Int) (v198 : (List SSpan)) (v199 : Int) (v200 : Bool) (kn : SRecv → Bool → Option R) : Option R :=
  s_recv_take_55 cp n p0 p1 p2 v172 v198 v199 v200 (fun v202 v203 => s_recv_take_65 cp n p0 p1 p2 v202 v203 (fun v220 v221 => (kn v220 v221)))
def s_recv_take_68 {R : Type} (cp : Nat → Nat → Bool) (n : Nat) (p0 : SRecv) (p1 : Int) (p2 : (List Int)) (v172 : Int) (v198 : (List SSpan)) (v199 : Int) (v200 : Bool) (kn : Option R) : Option R :=
  kn
def s_recv_take_69 {R : Type} (cp : Nat → Nat → Bool) (n : Nat) (p0 : SRecv) (p1 : Int) (p2 : (List Int)) (v172 : Int) (v198 : (List SSpan)) (v199 : Int) (v200 : Bool) (kn : SRecv → Bool → Option R) : Option R :=
  cond (v200) (s_recv_take_67 cp n p0 p1 p2 v172 v198 v199 v200 (fun v222 v223 => (kn v222 v223))) (s_recv_take_68 cp n p0 p1 p2 v172 v198 v199 v200 (kn p0 false))
def s_recv_take_72 {R : Type} (cp : Nat → Nat → Bool) (n : Nat) (p0 : SRecv) (p1 : Int) (p2 : (List Int)) (v172 : Int) (v198 : (List SSpan)) (kn : SRecv → Bool → Option R) : Option R :=
  s_recv_take_53 cp n p0 p1 p2 v172 v198 (fun v199 v200 => s_recv_take_69 cp n p0 p1 p2 v172 v198 v199 v200 (fun v224 v225 => (kn v224 v225)))
def s_recv_take_73 {R : Type} (cp : Nat → Nat → Bool) (n : Nat) (v227 : Bool) (v228 : SRecv) (kn : SRecv → Option R) (ke4 : Option R) : Option R :=
  cond (decide (0 < (v228.xLate.length : Int))) (cond (decide (0 < (v228.xLate.length : Int))) (cond (decide (((v228.xLate.getD 0 zPiece).xFrom) = v228.xNext)) (cond (decide (0 < (v228.xLate.length : Int))) (cond (cp (v228.xUnread.length + ((v228.xLate.getD 0 zPiece).xData).length) 1) (cond (decide (0 < (v228.xLate.length : Int))) (cond (decide (1 ≤ (v228.xLate.length : Int))) (kn (SRecv.mk (wr .i64 (v228.xNext + (((v228.xLate.getD 0 zPiece).xData).length : Int))) (v228.xUnread ++ ((v228.xLate.getD 0 zPiece).xData)) (List.take (v228.xLate.length - 1) (v228.xLate.drop 1)) v228.xCap v228.xShift v228.xEdge v228.xRecent v228.xStamps v228.xSacks v228.xFin v228.xDone v228.xFirst v228.xIrs v228.xOwn v228.xStamp)) (none)) (none)) (none)) (none)) (ke4)) (none)) (ke4)
def l_recv_take_77 {R : Type} (cp : Nat → Nat → Bool) (n : Nat) : Nat → Bool → SRecv → (SRecv → Option R) → Option R
  | 0, _, _, _ => none
  | m + 1, v227, v228, ke4 =>
    s_recv_take_73 cp n v227 v228 (fun v229 => l_recv_take_77 cp n m v227 v229 ke4) (ke4 v228)
def s_recv_take_78 {R : Type} (cp : Nat → Nat → Bool) (n : Nat) (v226 : SRecv) (v227 : Bool) (ke4 : SRecv → Option R) : Option R :=
  l_recv_take_77 cp n n v227 v226 ke4
def s_recv_take_80 {R : Type} (cp : Nat → Nat → Bool) (n : Nat) (v226 : SRecv) (v227 : Bool) (ke4 : SRecv → Option R) : Option R :=
  s_recv_take_78 cp n v226 v227 ke4
def s_recv_take_82 {R : Type} (cp : Nat → Nat → Bool) (n : Nat) (v226 : SRecv) (v227 : Bool) (kn : SRecv → Option R) : Option R :=
  s_recv_take_80 cp n v226 v227 (fun v230 => (kn v230))
def s_recv_take_83 {R : Type} (cp : Nat → Nat → Bool) (n : Nat) (v227 : Bool) (v231 : SRecv) (kr : Option R) : Option R :=
  kr
def s_recv_take_86 {R : Type} (cp : Nat → Nat → Bool) (n : Nat) (v226 : SRecv) (v227 : Bool) (kr : SRecv → Option R) : Option R :=
  s_recv_take_82 cp n v226 v227 (fun v231 => s_recv_take_83 cp n v227 v231 (kr v231))
def s_recv_take_88 {R : Type} (cp : Nat → Nat → Bool) (n : Nat) (p0 : SRecv) (p1 : Int) (p2 : (List Int)) (v172 : Int) (v198 : (List SSpan)) (kr : Bool → SRecv → Option R) : Option R :=
  s_recv_take_72 cp n p0 p1 p2 v172 v198 (fun v226 v227 => s_recv_take_86 cp n v226 v227 (fun v232 => (kr v227 v232)))
def s_recv_take_90 {R : Type} (cp : Nat → Nat → Bool) (n : Nat) (p0 : SRecv) (p1 : Int) (p2 : (List Int)) (v172 : Int) (v198 : (List SSpan)) (kr : Bool → SRecv → Option R) : Option R :=
  s_recv_take_51 cp n p0 p1 p2 v172 v198 (s_recv_take_88 cp n p0 p1 p2 v172 v198 (fun v233 v234 => (kr v233 v234)))
def s_recv_take_92 {R : Type} (cp : Nat → Nat → Bool) (n : Nat) (p0 : SRecv) (p1 : Int) (p2 : (List Int)) (v172 : Int) (kr : Bool → SRecv → Option R) : Option R :=
  s_recv_take_50 cp n p0 p1 p2 v172 (fun v198 => s_recv_take_90 cp n p0 p1 p2 v172 v198 (fun v235 v236 => (kr v235 v236)))
def s_recv_take_94 {R : Type} (cp : Nat → Nat → Bool) (n : Nat) (p0 : SRecv) (p1 : Int) (p2 : (List Int)) (kr : Bool → SRecv → Option R) : Option R :=
  s_recv_take_1 cp n p0 p1 p2 (fun v172 => s_recv_take_92 cp n p0 p1 p2 v172 (fun v237 v238 => (kr v237 v238)))
def G_recv_take {R : Type} (cp : Nat → Nat → Bool) : Nat → SRecv → Int → (List Int) → (SRecv → Bool → Option R) → Option R
  | 0, _, _, _, _ => none
  | n + 1, p0, p1, p2, k =>
    s_recv_take_94 cp n p0 p1 p2 (fun v239 v240 => k v240 v239)
/-! tideway/recv.firsts$1 -/
def G_recv_firsts_1 {R : Type} (cp : Nat → Nat → Bool) : Nat → SSpan → SSpan → (Bool → SSpan → Option R) → Option R
  | 0, _, _, _ => none
  | n + 1, p0, q0, k =>
    cond (decide (p0.xFrom ≤ q0.xFrom)) (k (decide (q0.xTo ≤ p0.xTo)) q0) (k false q0)
/-! slices.IndexFunc[[]tideway/api.Span,tideway/api.Span] -/
def s_slices_IndexFunc_Span_1 {R : Type} (cp : Nat → Nat → Bool) (n : Nat) (p0 : (List SSpan)) (q0 : SSpan) (kn : Option R) : Option R :=
  kn
def s_slices_IndexFunc_Span_3 {R : Type} (cp : Nat → Nat → Bool) (n : Nat) (p0 : (List SSpan)) (q0 : SSpan) (kn : Int → Option R) : Option R :=
  kn (p0.length : Int)
def s_slices_IndexFunc_Span_5 {R : Type} (cp : Nat → Nat → Bool) (n : Nat) (p0 : (List SSpan)) (v258 v259 v260 v261 : Int) (kn : Int → Int → Int → Option R) (kr : Int → Int → Option R) (ke0 : Option R) : Option R :=
  cond (decide (v259 < v258)) (cond (decide (0 ≤ v259)) (cond (decide (v259 < (p0.length : Int))) (G_recv_firsts_1 cp n (p0.getD (Int.toNat v259) zSpan) (SSpan.mk v260 v261) (fun r262 r263 => cond (r262) (kr r263.xFrom r263.xTo) (kn (wr .i64 (v259 + 1)) r263.xFrom r263.xTo))) (none)) (none)) (ke0)
def l_slices_IndexFunc_Span_12 {R : Type} (cp : Nat → Nat → Bool) (n : Nat) : Nat → (List SSpan) → Int → Int → Int → Int → (Int → Int → Int → Option R) → (Int → Int → Option R) → Option R
  | 0, _, _, _, _, _, _, _ => none
  | m + 1, p0, v258, v259, v260, v261, kr, ke0 =>
    s_slices_IndexFunc_Span_5 cp n p0 v258 v259 v260 v261 (fun v264 v265 v266 => l_slices_IndexFunc_Span_12 cp n m p0 v258 v264 v265 v266 kr ke0) (fun v267 v268 => (kr v259 v267 v268)) (ke0 v260 v261)
def s_slices_IndexFunc_Span_13 {R : Type} (cp : Nat → Nat → Bool) (n : Nat) (p0 : (List SSpan)) (q0 : SSpan) (v258 : Int) (kr : Int → Int → Int → Option R) (ke0 : Int → Int → Option R) : Option R :=
  l_slices_IndexFunc_Span_12 cp n n p0 v258 0 q0.xFrom q0.xTo kr ke0
def s_slices_IndexFunc_Span_16 {R : Type} (cp : Nat → Nat → Bool) (n : Nat) (p0 : (List SSpan)) (q0 : SSpan) (v258 : Int) (kn : Int → Int → Option R) (kr : Int → Int → Int → Option R) : Option R :=
  s_slices_IndexFunc_Span_13 cp n p0 q0 v258 (fun v269 v270 v271 => (kr v269 v270 v271)) (fun v272 v273 => (kn v272 v273))
def s_slices_IndexFunc_Span_19 {R : Type} (cp : Nat → Nat → Bool) (n : Nat) (p0 : (List SSpan)) (q0 : SSpan) (kn : Int → Int → Option R) (kr : Int → Int → Int → Option R) : Option R :=
  s_slices_IndexFunc_Span_3 cp n p0 q0 (fun v258 => s_slices_IndexFunc_Span_16 cp n p0 q0 v258 (fun v274 v275 => (kn v274 v275)) (fun v276 v277 v278 => (kr v276 v277 v278)))
def s_slices_IndexFunc_Span_20 {R : Type} (cp : Nat → Nat → Bool) (n : Nat) (v279 v280 : Int) (kr : Option R) : Option R :=
  kr
def s_slices_IndexFunc_Span_23 {R : Type} (cp : Nat → Nat → Bool) (n : Nat) (p0 : (List SSpan)) (q0 : SSpan) (kr : Int → Int → Int → Option R) : Option R :=
  s_slices_IndexFunc_Span_19 cp n p0 q0 (fun v279 v280 => s_slices_IndexFunc_Span_20 cp n v279 v280 (kr (-1) v279 v280)) (fun v281 v282 v283 => (kr v281 v282 v283))
def s_slices_IndexFunc_Span_25 {R : Type} (cp : Nat → Nat → Bool) (n : Nat) (p0 : (List SSpan)) (q0 : SSpan) (kr : Int → Int → Int → Option R) : Option R :=
  s_slices_IndexFunc_Span_1 cp n p0 q0 (s_slices_IndexFunc_Span_23 cp n p0 q0 (fun v284 v285 v286 => (kr v284 v285 v286)))
def G_slices_IndexFunc_Span {R : Type} (cp : Nat → Nat → Bool) : Nat → (List SSpan) → SSpan → (Int → SSpan → Option R) → Option R
  | 0, _, _, _ => none
  | n + 1, p0, q0, k =>
    s_slices_IndexFunc_Span_25 cp n p0 q0 (fun v287 v288 v289 => k v287 (SSpan.mk v288 v289))
/-! tideway/recv.firsts -/
def s_recv_firsts_1 {R : Type} (cp : Nat → Nat → Bool) (n : Nat) (p0 : SRecv) (p1 : Int) (p2 : (List Int)) (kn : (List SSpan) → Option R) : Option R :=
  G_recv_late cp n p0 (fun r246 => G_slices_Collect cp n r246 (fun r247 r248 => kn r247))
def s_recv_firsts_3 {R : Type} (cp : Nat → Nat → Bool) (n : Nat) (p0 : SRecv) (p1 : Int) (p2 : (List Int)) (v249 : (List SSpan)) (kn : Int → Option R) : Option R :=
  kn (wr .i64 ((v249.length : Int) - 1))
def s_recv_firsts_5 {R : Type} (cp : Nat → Nat → Bool) (n : Nat) (p0 : SRecv) (p1 : Int) (p2 : (List Int)) (v249 : (List SSpan)) (v251 : Int) (kn : Int → Option R) (ke0 : (List SSpan) → Option R) : Option R :=
  cond (decide (0 ≤ v251)) (cond (decide (0 ≤ v251)) (cond (decide (v251 < (v249.length : Int))) (cond (decide (((v249.getD (Int.toNat v251) zSpan).xFrom) < (wr .i64 (p1 + (p2.length : Int))))) (cond (decide (0 ≤ v251)) (cond (decide (v251 < (v249.length : Int))) (cond (decide (p1 < ((v249.getD (Int.toNat v251) zSpan).xTo))) (cond (decide (0 < (p2.length : Int))) (cond (decide (0 ≤ v251)) (cond (decide (v251 < (v249.length : Int))) (cond (cp ([(v249.getD (Int.toNat v251) zSpan)].length + p0.xFirst.length) 16) (ke0 ([(v249.getD (Int.toNat v251) zSpan)] ++ p0.xFirst)) (none)) (none)) (none)) (kn (wr .i64 (v251 - 1)))) (kn (wr .i64 (v251 - 1)))) (none)) (none)) (kn (wr .i64 (v251 - 1)))) (none)) (none)) (ke0 p0.xFirst)
def l_recv_firsts_10 {R : Type} (cp : Nat → Nat → Bool) (n : Nat) : Nat → SRecv → Int → (List Int) → (List SSpan) → Int → ((List SSpan) → Option R) → Option R
  | 0, _, _, _, _, _, _ => none
  | m + 1, p0, p1, p2, v249, v251, ke0 =>
    s_recv_firsts_5 cp n p0 p1 p2 v249 v251 (fun v252 => l_recv_firsts_10 cp n m p0 p1 p2 v249 v252 ke0) (fun v253 => (ke0 v253))
def s_recv_firsts_11 {R : Type} (cp : Nat → Nat → Bool) (n : Nat) (p0 : SRecv) (p1 : Int) (p2 : (List Int)) (v249 : (List SSpan)) (v250 : Int) (ke0 : (List SSpan) → Option R) : Option R :=
  l_recv_firsts_10 cp n n p0 p1 p2 v249 v250 ke0
def s_recv_firsts_13 {R : Type} (cp : Nat → Nat → Bool) (n : Nat) (p0 : SRecv) (p1 : Int) (p2 : (List Int)) (v249 : (List SSpan)) (v250 : Int) (kn : (List SSpan) → Option R) : Option R :=
  s_recv_firsts_11 cp n p0 p1 p2 v249 v250 (fun v254 => (kn v254))
def s_recv_firsts_15 {R : Type} (cp : Nat → Nat → Bool) (n : Nat) (p0 : SRecv) (p1 : Int) (p2 : (List Int)) (v249 : (List SSpan)) (kn : (List SSpan) → Option R) : Option R :=
  s_recv_firsts_3 cp n p0 p1 p2 v249 (fun v250 => s_recv_firsts_13 cp n p0 p1 p2 v249 v250 (fun v255 => (kn v255)))
def s_recv_firsts_16 {R : Type} (cp : Nat → Nat → Bool) (n : Nat) (v249 v256 : (List SSpan)) (kn : Option R) : Option R :=
  kn
def s_recv_firsts_18 {R : Type} (cp : Nat → Nat → Bool) (n : Nat) (v249 v256 : (List SSpan)) (kn : Int → Option R) : Option R :=
  kn (v256.length : Int)
def s_recv_firsts_20 {R : Type} (cp : Nat → Nat → Bool) (n : Nat) (v249 v256 : (List SSpan)) (v257 : Int) (v258 : (List SSpan)) (v259 : Int) (kn : (List SSpan) → Int → Option R) (ke2 : Option R) : Option R :=
  cond (decide (v259 < v257)) (cond (decide (0 ≤ v259)) (cond (decide (v259 < (v256.length : Int))) (G_slices_IndexFunc_Span cp n v249 (v256.getD (Int.toNat v259) zSpan) (fun r260 r261 => cond (decide (0 ≤ r260)) (cond (decide (0 ≤ r260)) (cond (decide (r260 < (v249.length : Int))) (G_slices_Contains_Span cp n v258 (v249.getD (Int.toNat r260) zSpan) (fun r262 => cond (!r262) (cond (decide (0 ≤ r260)) (cond (decide (r260 < (v249.length : Int))) (cond (cp (v258.length + [(v249.getD (Int.toNat r260) zSpan)].length) 16) (kn (v258 ++ [(v249.getD (Int.toNat r260) zSpan)]) (wr .i64 (v259 + 1))) (none)) (none)) (none)) (kn v258 (wr .i64 (v259 + 1))))) (none)) (none)) (kn v258 (wr .i64 (v259 + 1))))) (none)) (none)) (ke2)
def l_recv_firsts_25 {R : Type} (cp : Nat → Nat → Bool) (n : Nat) : Nat → (List SSpan) → (List SSpan) → Int → (List SSpan) → Int → ((List SSpan) → Option R) → Option R
  | 0, _, _, _, _, _, _ => none
  | m + 1, v249, v256, v257, v258, v259, ke2 =>
    s_recv_firsts_20 cp n v249 v256 v257 v258 v259 (fun v263 v264 => l_recv_firsts_25 cp n m v249 v256 v257 v263 v264 ke2) (ke2 v258)
def s_recv_firsts_26 {R : Type} (cp : Nat → Nat → Bool) (n : Nat) (v249 v256 : (List SSpan)) (v257 : Int) (ke2 : (List SSpan) → Option R) : Option R :=
  l_recv_firsts_25 cp n n v249 v256 v257 [] 0 ke2
def s_recv_firsts_28 {R : Type} (cp : Nat → Nat → Bool) (n : Nat) (v249 v256 : (List SSpan)) (v257 : Int) (kn : (List SSpan) → Option R) : Option R :=
  s_recv_firsts_26 cp n v249 v256 v257 (fun v265 => (kn v265))
def s_recv_firsts_30 {R : Type} (cp : Nat → Nat → Bool) (n : Nat) (v249 v256 : (List SSpan)) (kn : (List SSpan) → Option R) : Option R :=
  s_recv_firsts_18 cp n v249 v256 (fun v257 => s_recv_firsts_28 cp n v249 v256 v257 (fun v266 => (kn v266)))
def s_recv_firsts_31 {R : Type} (cp : Nat → Nat → Bool) (n : Nat) (v267 : (List SSpan)) (kr : Option R) : Option R :=
  kr
def s_recv_firsts_34 {R : Type} (cp : Nat → Nat → Bool) (n : Nat) (v249 v256 : (List SSpan)) (kr : (List SSpan) → Option R) : Option R :=
  s_recv_firsts_30 cp n v249 v256 (fun v267 => s_recv_firsts_31 cp n v267 (kr v267))
def s_recv_firsts_36 {R : Type} (cp : Nat → Nat → Bool) (n : Nat) (v249 v256 : (List SSpan)) (kr : (List SSpan) → Option R) : Option R :=
  s_recv_firsts_16 cp n v249 v256 (s_recv_firsts_34 cp n v249 v256 (fun v268 => (kr v268)))
def s_recv_firsts_38 {R : Type} (cp : Nat → Nat → Bool) (n : Nat) (p0 : SRecv) (p1 : Int) (p2 : (List Int)) (v249 : (List SSpan)) (kr : (List SSpan) → Option R) : Option R :=
  s_recv_firsts_15 cp n p0 p1 p2 v249 (fun v256 => s_recv_firsts_36 cp n v249 v256 (fun v269 => (kr v269)))
def s_recv_firsts_40 {R : Type} (cp : Nat → Nat → Bool) (n : Nat) (p0 : SRecv) (p1 : Int) (p2 : (List Int)) (kr : (List SSpan) → Option R) : Option R :=
  s_recv_firsts_1 cp n p0 p1 p2 (fun v249 => s_recv_firsts_38 cp n p0 p1 p2 v249 (fun v270 => (kr v270)))
def G_recv_firsts {R : Type} (cp : Nat → Nat → Bool) : Nat → SRecv → Int → (List Int) → ((List SSpan) → Option R) → Option R
  | 0, _, _, _, _ => none
  | n + 1, p0, p1, p2, k =>
    s_recv_firsts_40 cp n p0 p1 p2 (fun v271 => k v271)
/-! tideway/recv.Input -/
def s_recv_Input_1 {R : Type} (cp : Nat → Nat → Bool) (n : Nat) (p0 : SRecv) (p1 : SSegment) (kn : Int → SRecv → Option R) (kr : Int → SRecv → Option R) : Option R :=
  G_recv_Check cp n p0 (fun r15 => cond (!decide (r15 = 0)) (kr r15 (SRecv.mk 0 [] [] 0 0 0 0 false false 0 false [] 0 0 false)) (G_recv_copied cp n p0 (fun r16 => cond (r16.xStamps) (cond (!p1.xStamped) (kr 0 r16) (G_seq_Unwrap cp n r16.xNext (wr .u32 (p1.xSeq - r16.xIrs)) (fun r17 => kn r17 r16))) (G_seq_Unwrap cp n r16.xNext (wr .u32 (p1.xSeq - r16.xIrs)) (fun r18 => kn r18 r16)))))
def s_recv_Input_4 {R : Type} (cp : Nat → Nat → Bool) (n : Nat) (p1 : SSegment) (v19 : Int) (v20 : SRecv) (kn : Option R) (kr : SRecv → SSegment → Option R) : Option R :=
  cond (v20.xStamps) (cond (v20.xStamp) (G_seq_Diff cp n v20.xRecent p1.xVal (fun r23 => cond (decide (r23 < 0)) (G_recv_tell cp n v20 [] (fun r24 r25 => kr r24 r25)) (kn))) (kn)) (kn)
def s_recv_Input_6 {R : Type} (cp : Nat → Nat → Bool) (n : Nat) (p1 : SSegment) (v19 : Int) (v20 : SRecv) (kn : Int → Bool → Option R) : Option R :=
  cond (v20.xStamps) (cond (decide (v19 ≤ v20.xNext)) (kn p1.xVal true) (kn v20.xRecent v20.xStamp)) (kn v20.xRecent v20.xStamp)
def s_recv_Input_8 {R : Type} (cp : Nat → Nat → Bool) (n : Nat) (p1 : SSegment) (v19 : Int) (v20 : SRecv) (v28 : Int) (v29 : Bool) (kn : Bool → SRecv → Option R) : Option R :=
  cond (decide (0 < (bits .and .i64 p1.xFlags 1))) (G_recv_end cp n (SRecv.mk v20.xNext v20.xUnread v20.xLate v20.xCap v20.xShift v20.xEdge v28 v20.xStamps v20.xSacks v20.xFin v20.xDone v20.xFirst v20.xIrs v20.xOwn v29) (wr .i64 (v19 + (p1.xData.length : Int))) (fun r36 => G_recv_take cp n (SRecv.mk v20.xNext v20.xUnread v20.xLate v20.xCap v20.xShift v20.xEdge v28 v20.xStamps v20.xSacks r36 v20.xDone v20.xFirst v20.xIrs v20.xOwn v29) v19 p1.xData (fun r37 r38 => kn r38 (SRecv.mk r37.xNext r37.xUnread r37.xLate r37.xCap r37.xShift r37.xEdge r37.xRecent r37.xStamps r37.xSacks r37.xFin (decide (r37.xFin = r37.xNext)) r37.xFirst r37.xIrs r37.xOwn r37.xStamp)))) (G_recv_take cp n (SRecv.mk v20.xNext v20.xUnread v20.xLate v20.xCap v20.xShift v20.xEdge v28 v20.xStamps v20.xSacks v20.xFin v20.xDone v20.xFirst v20.xIrs v20.xOwn v29) v19 p1.xData (fun r39 r40 => kn r40 (SRecv.mk r39.xNext r39.xUnread r39.xLate r39.xCap r39.xShift r39.xEdge r39.xRecent r39.xStamps r39.xSacks r39.xFin (decide (r39.xFin = r39.xNext)) r39.xFirst r39.xIrs r39.xOwn r39.xStamp)))
def s_recv_Input_10 {R : Type} (cp : Nat → Nat → Bool) (n : Nat) (p1 : SSegment) (v19 : Int) (v41 : Bool) (v42 : SRecv) (kn : (List SSpan) → Option R) : Option R :=
  G_recv_firsts cp n v42 v19 p1.xData (fun r44 => kn r44)
def s_recv_Input_12 {R : Type} (cp : Nat → Nat → Bool) (n : Nat) (p1 : SSegment) (v19 : Int) (v41 : Bool) (v42 : SRecv) (v45 : (List SSpan)) (kn : (List SBlock) → Option R) : Option R :=
  cond (v42.xSacks) (cond (decide (0 < (p1.xData.length : Int))) (cond (decide (0 ≤ v19)) (cond (!v41) (G_seq_Add cp n p1.xSeq (p1.xData.length : Int) (fun r46 => kn [(SBlock.mk p1.xSeq r46)])) (kn [])) (kn [])) (kn [])) (kn [])
def s_recv_Input_14 {R : Type} (cp : Nat → Nat → Bool) (n : Nat) (v42 : SRecv) (v45 : (List SSpan)) (v47 : (List SBlock)) (kr : SRecv → SSegment → Option R) : Option R :=
  G_recv_tell cp n (SRecv.mk v42.xNext v42.xUnread v42.xLate v42.xCap v42.xShift v42.xEdge v42.xRecent v42.xStamps v42.xSacks v42.xFin v42.xDone v45 v42.xIrs v42.xOwn v42.xStamp) v47 (fun r48 r49 => kr r48 r49)
def s_recv_Input_17 {R : Type} (cp : Nat → Nat → Bool) (n : Nat) (p1 : SSegment) (v19 : Int) (v41 : Bool) (v42 : SRecv) (v45 : (List SSpan)) (kr : SRecv → SSegment → Option R) : Option R :=
  s_recv_Input_12 cp n p1 v19 v41 v42 v45 (fun v47 => s_recv_Input_14 cp n v42 v45 v47 (fun v50 v51 => (kr v50 v51)))
def s_recv_Input_19 {R : Type} (cp : Nat → Nat → Bool) (n : Nat) (p1 : SSegment) (v19 : Int) (v41 : Bool) (v42 : SRecv) (kr : SRecv → SSegment → Option R) : Option R :=
  s_recv_Input_10 cp n p1 v19 v41 v42 (fun v45 => s_recv_Input_17 cp n p1 v19 v41 v42 v45 (fun v52 v53 => (kr v52 v53)))
def s_recv_Input_21 {R : Type} (cp : Nat → Nat → Bool) (n : Nat) (p1 : SSegment) (v19 : Int) (v20 : SRecv) (v28 : Int) (v29 : Bool) (kr : SRecv → SSegment → Option R) : Option R :=
  s_recv_Input_8 cp n p1 v19 v20 v28 v29 (fun v41 v42 => s_recv_Input_19 cp n p1 v19 v41 v42 (fun v54 v55 => (kr v54 v55)))
def s_recv_Input_23 {R : Type} (cp : Nat → Nat → Bool) (n : Nat) (p1 : SSegment) (v19 : Int) (v20 : SRecv) (kr : SRecv → SSegment → Option R) : Option R :=
  s_recv_Input_6 cp n p1 v19 v20 (fun v28 v29 => s_recv_Input_21 cp n p1 v19 v20 v28 v29 (fun v56 v57 => (kr v56 v57)))
def s_recv_Input_25 {R : Type} (cp : Nat → Nat → Bool) (n : Nat) (p1 : SSegment) (v19 : Int) (v20 : SRecv) (kr : SRecv → SSegment → Option R) : Option R :=
  s_recv_Input_4 cp n p1 v19 v20 (s_recv_Input_23 cp n p1 v19 v20 (fun v58 v59 => (kr v58 v59))) (fun v26 v27 => (kr v26 v27))
def s_recv_Input_27 {R : Type} (cp : Nat → Nat → Bool) (n : Nat) (p0 : SRecv) (p1 : SSegment) (kr : Bool → Int → SRecv → SSegment → Option R) : Option R :=
  s_recv_Input_1 cp n p0 p1 (fun v19 v20 => s_recv_Input_25 cp n p1 v19 v20 (fun v60 v61 => (kr true 0 v60 v61))) (fun v21 v22 => (kr false v21 v22 (SSegment.mk 0 0 0 0 0 0 0 0 0 false false 0 0 [] [])))
def G_recv_Input {R : Type} (cp : Nat → Nat → Bool) : Nat → SRecv → SSegment → (SRecv → SSegment → Bool → Int → Option R) → Option R
  | 0, _, _, _ => none
  | n + 1, p0, p1, k =>
    s_recv_Input_27 cp n p0 p1 (fun v62 v63 v64 v65 => k v64 v65 v62 v63)
/-! tideway/seq.Clamp -/
def G_seq_Clamp {R : Type} (cp : Nat → Nat → Bool) : Nat → Int → Int → Int → (Int → Option R) → Option R
  | 0, _, _, _, _ => none
  | n + 1, p0, p1, p2, k =>
    k (mx p1 (mn p0 p2))
/-! tideway/recv.Read -/
def s_recv_Read_1 {R : Type} (cp : Nat → Nat → Bool) (n : Nat) (p0 : SRecv) (p1 : Int) (kn : (List Int) → SRecv → Option R) (kr : Int → Option R) : Option R :=
  G_recv_Check cp n p0 (fun r84 => cond (!decide (r84 = 0)) (kr r84) (G_recv_copied cp n p0 (fun r85 => G_seq_Clamp cp n p1 0 (r85.xUnread.length : Int) (fun r86 => cond (decide (0 ≤ r86)) (cond (decide (r86 ≤ (r85.xUnread.length : Int))) (G_bytes_Clone cp n (r85.xUnread.take (Int.toNat r86)) (fun r87 => cond (decide (0 ≤ r86)) (cond (decide (r86 ≤ (r85.xUnread.length : Int))) (kn r87 (SRecv.mk r85.xNext (List.take (r85.xUnread.length - (Int.toNat r86)) (r85.xUnread.drop (Int.toNat r86))) r85.xLate r85.xCap r85.xShift r85.xEdge r85.xRecent r85.xStamps r85.xSacks r85.xFin r85.xDone r85.xFirst r85.xIrs r85.xOwn r85.xStamp)) (none)) (none))) (none)) (none)))))
def s_recv_Read_4 {R : Type} (cp : Nat → Nat → Bool) (n : Nat) (v88 : (List Int)) (v89 : SRecv) (kr : Bool → SRecv → SSegment → Option R) : Option R :=
  G_recv_window cp n v89 (fun r91 => cond (decide ((wr .i64 ((wr .i64 (v89.xNext + r91)) - v89.xEdge)) < (mx (wr .i64 (Int.tdiv v89.xCap 2)) 1))) (kr false v89 (SSegment.mk 0 0 0 0 0 0 0 0 0 false false 0 0 [] [])) (G_recv_tell cp n v89 [] (fun r92 r93 => kr true r92 r93)))
def s_recv_Read_7 {R : Type} (cp : Nat → Nat → Bool) (n : Nat) (p0 : SRecv) (p1 : Int) (kr : (List Int) → Bool → Int → SRecv → SSegment → Option R) : Option R :=
  s_recv_Read_1 cp n p0 p1 (fun v88 v89 => s_recv_Read_4 cp n v88 v89 (fun v94 v95 v96 => (kr v88 v94 0 v95 v96))) (fun v90 => (kr [] false v90 (SRecv.mk 0 [] [] 0 0 0 0 false false 0 false [] 0 0 false) (SSegment.mk 0 0 0 0 0 0 0 0 0 false false 0 0 [] [])))
def G_recv_Read {R : Type} (cp : Nat → Nat → Bool) : Nat → SRecv → Int → (SRecv → (List Int) → SSegment → Bool → Int → Option R) → Option R
  | 0, _, _, _ => none
  | n + 1, p0, p1, k =>
    s_recv_Read_7 cp n p0 p1 (fun v97 v98 v99 v100 v101 => k v100 v97 v101 v98 v99)
/-! tideway/recv.Window -/
def G_recv_Window {R : Type} (cp : Nat → Nat → Bool) : Nat → SRecv → (Int → Option R) → Option R
  | 0, _, _ => none
  | n + 1, p0, k =>
    G_recv_Check cp n p0 (fun r54 => cond (!decide (r54 = 0)) (k 0) (G_recv_window cp n p0 (fun r55 => k r55)))
/-! tideway/tidewaylaw08.heads -/
def s_law08_heads_1 {R : Type} (cp : Nat → Nat → Bool) (n : Nat) (kn : Int → Bool → Int → Bool → Int → (List Int) → Int → SRecv → SSegment → SRecv → SSegment → SRecv → Option R) : Option R :=
  G_recv_New cp n 10 0 100 7 false true (fun r25 r26 => G_recv_Input cp n r25 (SSegment.mk 0 0 102 0 0 0 0 0 0 false false 0 0 [] [99, 100]) (fun r27 r28 r29 r30 => G_recv_Input cp n r27 (SSegment.mk 0 0 100 0 0 0 0 0 0 false false 0 0 [] [97, 98]) (fun r31 r32 r33 r34 => G_recv_Read cp n r31 3 (fun r35 r36 r37 r38 r39 => kn r26 r29 r30 r33 r34 r36 r39 r25 r28 r31 r32 r35))))
def s_law08_heads_3 {R : Type} (cp : Nat → Nat → Bool) (n : Nat) (v40 : Int) (v41 : Bool) (v42 : Int) (v43 : Bool) (v44 : Int) (v45 : (List Int)) (v46 : Int) (v47 : SRecv) (v48 : SSegment) (v49 : SRecv) (v50 : SSegment) (v51 : SRecv) (kr : Bool → Option R) : Option R :=
  G_recv_New cp n 0 0 0 0 false false (fun r52 r53 => cond (!decide (v40 = 0)) (kr false) (cond (!decide (v42 = 0)) (kr false) (cond (!decide (v44 = 0)) (kr false) (cond (!decide (v46 = 0)) (kr false) (cond (!v41) (kr false) (cond (!v43) (kr false) (cond (!decide (r53 = 2)) (kr false) (cond (decide (v48.xAck = 100)) (cond (decide ((v48.xSacks.length : Int) = 1)) (cond (decide (0 < (v48.xSacks.length : Int))) (cond ((decide ((v48.xSacks.getD 0 zBlock).xFrom = 102) && (decide ((v48.xSacks.getD 0 zBlock).xTo = 104) && true))) (cond (decide (v50.xAck = 104)) (cond (((strOfNums v49.xUnread).data.toList == str_abcd.data.toList)) (cond (((strOfNums v45).data.toList == str_abc.data.toList)) (cond (((strOfNums v51.xUnread).data.toList == str_d.data.toList)) (G_recv_Window cp n v47 (fun r56 => kr (decide (r56 = 10)))) (kr false)) (kr false)) (kr false)) (kr false)) (kr false)) (none)) (kr false)) (kr false)))))))))
def s_law08_heads_6 {R : Type} (cp : Nat → Nat → Bool) (n : Nat) (kr : Bool → Option R) : Option R :=
  s_law08_heads_1 cp n (fun v40 v41 v42 v43 v44 v45 v46 v47 v48 v49 v50 v51 => s_law08_heads_3 cp n v40 v41 v42 v43 v44 v45 v46 v47 v48 v49 v50 v51 (fun v57 => (kr v57)))
def G_law08_heads {R : Type} (cp : Nat → Nat → Bool) : Nat → (Bool → Option R) → Option R
  | 0, _ => none
  | n + 1, k =>
    s_law08_heads_6 cp n (fun v58 => k v58)
/-! tideway/tidewaylaw08.RecvOld -/
def s_law08_RecvOld_1 {R : Type} (cp : Nat → Nat → Bool) (n : Nat) (p0 : SRecv) (p1 : SSegment) (p2 : Int) (kn : Option R) : Option R :=
  kn
def s_law08_RecvOld_3 {R : Type} (cp : Nat → Nat → Bool) (n : Nat) (p0 : SRecv) (p1 : SSegment) (p2 : Int) (kn : Bool → Option R) : Option R :=
  G_recv_Check cp n p0 (fun r1 => cond (!decide (r1 = 0)) (kn true) (cond (!p0.xStamps) (kn true) (cond (!p0.xStamp) (kn true) (cond (decide (p2 < 1)) (kn true) (cond (decide (2147483647 < p2)) (kn true) (kn (decide (500 < (p1.xData.length : Int)))))))))
def s_law08_RecvOld_5 {R : Type} (cp : Nat → Nat → Bool) (n : Nat) (p0 : SRecv) (p1 : SSegment) (p2 : Int) (v2 : Bool) (kn : Option R) (kr : Bool → Option R) : Option R :=
  cond (v2) (G_law08_heads cp n (fun r3 => kr r3)) (kn)
def s_law08_RecvOld_8 {R : Type} (cp : Nat → Nat → Bool) (n : Nat) (p0 : SRecv) (p1 : SSegment) (p2 : Int) (kn : Option R) (kr : Bool → Option R) : Option R :=
  s_law08_RecvOld_3 cp n p0 p1 p2 (fun v2 => s_law08_RecvOld_5 cp n p0 p1 p2 v2 kn (fun v4 => (kr v4)))
def s_law08_RecvOld_9 {R : Type} (cp : Nat → Nat → Bool) (n : Nat) (p0 : SRecv) (p1 : SSegment) (p2 : Int) (kr : Bool → Option R) : Option R :=
  G_recv_Input cp n p0 (SSegment.mk p1.xSrcPort p1.xDstPort p1.xSeq p1.xAck p1.xFlags p1.xWin p1.xUrg p1.xMss p1.xScale p1.xSackOk true (wr .u32 (p0.xRecent - (wr .u32 p2))) p1.xEcr p1.xSacks p1.xData) (fun r6 r7 r8 r9 => cond (decide (r9 = 0)) (cond (r8) (cond (decide (r6.xNext = p0.xNext)) (cond (decide ((r6.xLate.length : Int) = (p0.xLate.length : Int))) (cond (decide (r6.xRecent = p0.xRecent)) (cond (decide (r6.xFin = p0.xFin)) (G_law08_heads cp n (fun r10 => kr r10)) (kr false)) (kr false)) (kr false)) (kr false)) (kr false)) (kr false))
def s_law08_RecvOld_12 {R : Type} (cp : Nat → Nat → Bool) (n : Nat) (p0 : SRecv) (p1 : SSegment) (p2 : Int) (kr : Bool → Option R) : Option R :=
  s_law08_RecvOld_8 cp n p0 p1 p2 (s_law08_RecvOld_9 cp n p0 p1 p2 (fun v11 => (kr v11))) (fun v5 => (kr v5))
def s_law08_RecvOld_14 {R : Type} (cp : Nat → Nat → Bool) (n : Nat) (p0 : SRecv) (p1 : SSegment) (p2 : Int) (kr : Bool → Option R) : Option R :=
  s_law08_RecvOld_1 cp n p0 p1 p2 (s_law08_RecvOld_12 cp n p0 p1 p2 (fun v12 => (kr v12)))
def G_law08_RecvOld {R : Type} (cp : Nat → Nat → Bool) : Nat → SRecv → SSegment → Int → (Bool → Option R) → Option R
  | 0, _, _, _, _ => none
  | n + 1, p0, p1, p2, k =>
    s_law08_RecvOld_14 cp n p0 p1 p2 (fun v13 => k v13)
def ca_recv_reach {R : Type} (cp : Nat → Nat → Bool) (n : Nat) (av : Fr) (cs : List Fr) (k : Ret2 RW → Option R) : Option R := match av, cs with
  | [y0], [] => (dA y0).bind fun c0_ => (dRecv c0_).bind fun p0 => G_recv_reach cp n p0 (fun r0 => k ⟨(tL r0), [], []⟩)
  | _, _ => none
def ca_recv_limit {R : Type} (cp : Nat → Nat → Bool) (n : Nat) (av : Fr) (cs : List Fr) (k : Ret2 RW → Option R) : Option R := match av, cs with
  | [y0], [] => (dA y0).bind fun c0_ => (dRecv c0_).bind fun p0 => G_recv_limit cp n p0 (fun r0 => k ⟨(tL r0), [], []⟩)
  | _, _ => none
def ca_recv_late {R : Type} (cp : Nat → Nat → Bool) (n : Nat) (av : Fr) (cs : List Fr) (k : Ret2 RW → Option R) : Option R := match av, cs with
  | [y0], [] => (dA y0).bind fun c0_ => (dRecv c0_).bind fun p0 => G_recv_late cp n p0 (fun r0 => k ⟨.clo 70 [(4, 0)], [], [(eRecv r0)]⟩)
  | _, _ => none
def ca_recv_of {R : Type} (cp : Nat → Nat → Bool) (n : Nat) (av : Fr) (cs : List Fr) (k : Ret2 RW → Option R) : Option R := match av, cs with
  | [y0], [] => (dA y0).bind fun c0_ => (dPiece c0_).bind fun p0 => G_recv_of cp n p0 (fun r0 => k ⟨.agg (eSpan r0), [], []⟩)
  | _, _ => none
def ca_slices_AppendSeq_Span {R : Type} (cp : Nat → Nat → Bool) (n : Nat) (av : Fr) (cs : List Fr) (k : Ret2 RW → Option R) : Option R := match av, cs with
  | [y0, y1], [w0] => (dRSpan true y0).bind fun p0 => (dC 70 [(32, 0)] y1).bind fun _ => (dRecv w0).bind fun q0 => G_slices_AppendSeq_Span cp n p0 q0 (fun r0 r1 => k ⟨.row false (.rSpan r0), [(eRecv r1)], []⟩)
  | _, _ => none
def ca_slices_Collect {R : Type} (cp : Nat → Nat → Bool) (n : Nat) (av : Fr) (cs : List Fr) (k : Ret2 RW → Option R) : Option R := match av, cs with
  | [y0], [w0] => (dC 70 [(5, 0)] y0).bind fun _ => (dRecv w0).bind fun q0 => G_slices_Collect cp n q0 (fun r0 r1 => k ⟨.row false (.rSpan r0), [(eRecv r1)], []⟩)
  | _, _ => none
def ca_slices_Index_Span {R : Type} (cp : Nat → Nat → Bool) (n : Nat) (av : Fr) (cs : List Fr) (k : Ret2 RW → Option R) : Option R := match av, cs with
  | [y0, y1], [] => (dRSpan false y0).bind fun p0 => (dA y1).bind fun c1_ => (dSpan c1_).bind fun p1 => G_slices_Index_Span cp n p0 p1 (fun r0 => k ⟨(tL r0), [], []⟩)
  | _, _ => none
def ca_slices_Contains_Span {R : Type} (cp : Nat → Nat → Bool) (n : Nat) (av : Fr) (cs : List Fr) (k : Ret2 RW → Option R) : Option R := match av, cs with
  | [y0, y1], [] => (dRSpan false y0).bind fun p0 => (dA y1).bind fun c1_ => (dSpan c1_).bind fun p1 => G_slices_Contains_Span cp n p0 p1 (fun r0 => k ⟨(tB r0), [], []⟩)
  | _, _ => none
def ca_recv_pieces {R : Type} (cp : Nat → Nat → Bool) (n : Nat) (av : Fr) (cs : List Fr) (k : Ret2 RW → Option R) : Option R := match av, cs with
  | [y0], [] => (dA y0).bind fun c0_ => (dRecv c0_).bind fun p0 => G_recv_pieces cp n p0 (fun r0 => k ⟨(tB r0), [], []⟩)
  | _, _ => none
def ca_recv_Check {R : Type} (cp : Nat → Nat → Bool) (n : Nat) (av : Fr) (cs : List Fr) (k : Ret2 RW → Option R) : Option R := match av, cs with
  | [y0], [] => (dA y0).bind fun c0_ => (dRecv c0_).bind fun p0 => G_recv_Check cp n p0 (fun r0 => k ⟨(tL r0), [], []⟩)
  | _, _ => none
def ca_recv_window {R : Type} (cp : Nat → Nat → Bool) (n : Nat) (av : Fr) (cs : List Fr) (k : Ret2 RW → Option R) : Option R := match av, cs with
  | [y0], [] => (dA y0).bind fun c0_ => (dRecv c0_).bind fun p0 => G_recv_window cp n p0 (fun r0 => k ⟨(tL r0), [], []⟩)
  | _, _ => none
def ca_recv_New {R : Type} (cp : Nat → Nat → Bool) (n : Nat) (av : Fr) (cs : List Fr) (k : Ret2 RW → Option R) : Option R := match av, cs with
  | [y0, y1, y2, y3, y4, y5], [] => (dI .i64 y0).bind fun p0 => (dI .i64 y1).bind fun p1 => (dI .u32 y2).bind fun p2 => (dI .u32 y3).bind fun p3 => (dB y4).bind fun p4 => (dB y5).bind fun p5 => G_recv_New cp n p0 p1 p2 p3 p4 p5 (fun r0 r1 => k ⟨.tup [.agg (eRecv r0), (tL r1)], [], []⟩)
  | _, _ => none
def ca_slices_Clone_Span {R : Type} (cp : Nat → Nat → Bool) (n : Nat) (av : Fr) (cs : List Fr) (k : Ret2 RW → Option R) : Option R := match av, cs with
  | [y0], [] => (dRSpan false y0).bind fun p0 => G_slices_Clone_Span cp n p0 (fun r0 => k ⟨.row true (.rSpan r0), [], []⟩)
  | _, _ => none
def ca_bytes_Clone {R : Type} (cp : Nat → Nat → Bool) (n : Nat) (av : Fr) (cs : List Fr) (k : Ret2 RW → Option R) : Option R := match av, cs with
  | [y0], [] => (dRuint8 false y0).bind fun p0 => G_bytes_Clone cp n p0 (fun r0 => k ⟨.row true (.ruint8 r0), [], []⟩)
  | _, _ => none
def ca_recv_copied {R : Type} (cp : Nat → Nat → Bool) (n : Nat) (av : Fr) (cs : List Fr) (k : Ret2 RW → Option R) : Option R := match av, cs with
  | [y0], [] => (dA y0).bind fun c0_ => (dRecv c0_).bind fun p0 => G_recv_copied cp n p0 (fun r0 => k ⟨.agg (eRecvt r0), [], []⟩)
  | _, _ => none
def ca_seq_Diff {R : Type} (cp : Nat → Nat → Bool) (n : Nat) (av : Fr) (cs : List Fr) (k : Ret2 RW → Option R) : Option R := match av, cs with
  | [y0, y1], [] => (dI .u32 y0).bind fun p0 => (dI .u32 y1).bind fun p1 => G_seq_Diff cp n p0 p1 (fun r0 => k ⟨(tL r0), [], []⟩)
  | _, _ => none
def ca_seq_Sum {R : Type} (cp : Nat → Nat → Bool) (n : Nat) (av : Fr) (cs : List Fr) (k : Ret2 RW → Option R) : Option R := match av, cs with
  | [y0, y1], [] => (dI .i64 y0).bind fun p0 => (dI .i64 y1).bind fun p1 => G_seq_Sum cp n p0 p1 (fun r0 => k ⟨(tL r0), [], []⟩)
  | _, _ => none
def ca_seq_Unwrap {R : Type} (cp : Nat → Nat → Bool) (n : Nat) (av : Fr) (cs : List Fr) (k : Ret2 RW → Option R) : Option R := match av, cs with
  | [y0, y1], [] => (dI .i64 y0).bind fun p0 => (dI .u32 y1).bind fun p1 => G_seq_Unwrap cp n p0 p1 (fun r0 => k ⟨(tL r0), [], []⟩)
  | _, _ => none
def ca_seq_Add {R : Type} (cp : Nat → Nat → Bool) (n : Nat) (av : Fr) (cs : List Fr) (k : Ret2 RW → Option R) : Option R := match av, cs with
  | [y0, y1], [] => (dI .u32 y0).bind fun p0 => (dI .i64 y1).bind fun p1 => G_seq_Add cp n p0 p1 (fun r0 => k ⟨(tI .u32 r0), [], []⟩)
  | _, _ => none
def ca_recv_tell {R : Type} (cp : Nat → Nat → Bool) (n : Nat) (av : Fr) (cs : List Fr) (k : Ret2 RW → Option R) : Option R := match av, cs with
  | [y0, y1], [] => (dA y0).bind fun c0_ => (dRecv c0_).bind fun p0 => (dRBlock true y1).bind fun p1 => G_recv_tell cp n p0 p1 (fun r0 r1 => k ⟨.tup [.agg (eRecv r0), .agg [(tL r1.xSrcPort), (tL r1.xDstPort), (tI .u32 r1.xSeq), (tI .u32 r1.xAck), (tL r1.xFlags), (tL r1.xWin), (tL r1.xUrg), (tL r1.xMss), (tL r1.xScale), (tB r1.xSackOk), (tB r1.xStamped), (tI .u32 r1.xVal), (tI .u32 r1.xEcr), .row true (.rBlock r1.xSacks), .row false (.ruint8 r1.xData)]], [], []⟩)
  | _, _ => none
def ca_recv_end {R : Type} (cp : Nat → Nat → Bool) (n : Nat) (av : Fr) (cs : List Fr) (k : Ret2 RW → Option R) : Option R := match av, cs with
  | [y0, y1], [] => (dA y0).bind fun c0_ => (dRecv c0_).bind fun p0 => (dI .i64 y1).bind fun p1 => G_recv_end cp n p0 p1 (fun r0 => k ⟨(tL r0), [], []⟩)
  | _, _ => none
def ca_span_may {R : Type} (cp : Nat → Nat → Bool) (n : Nat) (av : Fr) (cs : List Fr) (k : Ret2 RW → Option R) : Option R := match av, cs with
  | [y0], [] => (dA y0).bind fun c0_ => (dSpan c0_).bind fun p0 => G_span_may cp n p0 (fun r0 => k ⟨(tB r0), [], []⟩)
  | _, _ => none
def ca_span_Check {R : Type} (cp : Nat → Nat → Bool) (n : Nat) (av : Fr) (cs : List Fr) (k : Ret2 RW → Option R) : Option R := match av, cs with
  | [y0], [] => (dRSpan false y0).bind fun p0 => G_span_Check cp n p0 (fun r0 => k ⟨(tL r0), [], []⟩)
  | _, _ => none
def ca_span_within {R : Type} (cp : Nat → Nat → Bool) (n : Nat) (av : Fr) (cs : List Fr) (k : Ret2 RW → Option R) : Option R := match av, cs with
  | [y0, y1], [] => (dRSpan false y0).bind fun p0 => (dA y1).bind fun c1_ => (dSpan c1_).bind fun p1 => G_span_within cp n p0 p1 (fun r0 r1 => k ⟨.clo 83 [(6, 0), (8, 0)], [], [[.row false (.rSpan r0)], (eSpan r1)]⟩)
  | _, _ => none
def ca_span_Gaps {R : Type} (cp : Nat → Nat → Bool) (n : Nat) (av : Fr) (cs : List Fr) (k : Ret2 RW → Option R) : Option R := match av, cs with
  | [y0, y1], [] => (dRSpan false y0).bind fun p0 => (dA y1).bind fun c1_ => (dSpan c1_).bind fun p1 => G_span_Gaps cp n p0 p1 (fun r0 => k ⟨.row false (.rSpan r0), [], []⟩)
  | _, _ => none
def ca_recv_put_1 {R : Type} (cp : Nat → Nat → Bool) (n : Nat) (av : Fr) (cs : List Fr) (k : Ret2 RW → Option R) : Option R := match av, cs with
  | [y0, y1], [] => (dA y0).bind fun c0_ => (dPiece c0_).bind fun p0 => (dI .i64 y1).bind fun p1 => G_recv_put_1 cp n p0 p1 (fun r0 => k ⟨(tL r0), [], []⟩)
  | _, _ => none
def ca_slices_BinarySearchFunc_Piece {R : Type} (cp : Nat → Nat → Bool) (n : Nat) (av : Fr) (cs : List Fr) (k : Ret2 RW → Option R) : Option R := match av, cs with
  | [y0, y1, y2], [] => (dRPiece false y0).bind fun p0 => (dI .i64 y1).bind fun p1 => (dC 74 [] y2).bind fun _ => G_slices_BinarySearchFunc_Piece cp n p0 p1 (fun r0 r1 => k ⟨.tup [(tL r0), (tB r1)], [], []⟩)
  | _, _ => none
def ca_slices_Clone_Piece {R : Type} (cp : Nat → Nat → Bool) (n : Nat) (av : Fr) (cs : List Fr) (k : Ret2 RW → Option R) : Option R := match av, cs with
  | [y0], [] => (dRPiece false y0).bind fun p0 => G_slices_Clone_Piece cp n p0 (fun r0 => k ⟨.un none (.rPiece r0), [], []⟩)
  | _, _ => none
def ca_slices_Insert_Piece {R : Type} (cp : Nat → Nat → Bool) (n : Nat) (av : Fr) (cs : List Fr) (k : Ret2 RW → Option R) : Option R := match av, cs with
  | [y0, y1, y2], [] => (dUPiece y0).bind fun p0 => (dI .i64 y1).bind fun p1 => (dXPiece y2).bind fun p2 => G_slices_Insert_Piece cp n p0 p1 p2 (fun r0 => k ⟨.un none (.rPiece r0), [], []⟩)
  | _, _ => none
def ca_slices_Clip_byte {R : Type} (cp : Nat → Nat → Bool) (n : Nat) (av : Fr) (cs : List Fr) (k : Ret2 RW → Option R) : Option R := match av, cs with
  | [y0], [] => (dRuint8 false y0).bind fun p0 => G_slices_Clip_byte cp n p0 (fun r0 => k ⟨.row true (.ruint8 r0), [], []⟩)
  | _, _ => none
def ca_recv_put {R : Type} (cp : Nat → Nat → Bool) (n : Nat) (av : Fr) (cs : List Fr) (k : Ret2 RW → Option R) : Option R := match av, cs with
  | [y0, y1], [] => (dRPiece false y0).bind fun p0 => (dA y1).bind fun c1_ => (dPiece c1_).bind fun p1 => G_recv_put cp n p0 p1 (fun r0 => k ⟨.row true (.rPiece r0), [], []⟩)
  | _, _ => none
def ca_recv_take_1 {R : Type} (cp : Nat → Nat → Bool) (n : Nat) (av : Fr) (cs : List Fr) (k : Ret2 RW → Option R) : Option R := match av, cs with
  | [y0, y1, y2, y3, y4], [w0, w1, w2, w3] => (dA y0).bind fun c0_ => (dSpan c0_).bind fun p0 => (dP 43 0 y1).bind fun _ => (dP 23 0 y2).bind fun _ => (dP 41 0 y3).bind fun _ => (dP 39 0 y4).bind fun _ => (dRecvt w0).bind fun q0 => (dOne w1).bind fun u1 => (dI .i64 u1).bind fun q1 => (dOne w2).bind fun u2 => (dRuint8 false u2).bind fun q2 => (dOne w3).bind fun u3 => (dB u3).bind fun q3 => G_recv_take_1 cp n p0 q0 q1 q2 q3 (fun r0 r1 r2 r3 => k ⟨.tup [], [(eRecvt r0), [(tL r1)], [.row false (.ruint8 r2)], [(tB r3)]], []⟩)
  | _, _ => none
def ca_recv_take {R : Type} (cp : Nat → Nat → Bool) (n : Nat) (av : Fr) (cs : List Fr) (k : Ret2 RW → Option R) : Option R := match av, cs with
  | [y0, y1, y2], [] => (dA y0).bind fun c0_ => (dRecvt c0_).bind fun p0 => (dI .i64 y1).bind fun p1 => (dRuint8 false y2).bind fun p2 => G_recv_take cp n p0 p1 p2 (fun r0 r1 => k ⟨.tup [.agg [(tL r0.xNext), .row true (.ruint8 r0.xUnread), .row false (.rPiece r0.xLate), (tL r0.xCap), (tL r0.xShift), (tL r0.xEdge), (tI .u32 r0.xRecent), (tB r0.xStamps), (tB r0.xSacks), (tL r0.xFin), (tB r0.xDone), .row true (.rSpan r0.xFirst), (tI .u32 r0.xIrs), (tI .u32 r0.xOwn), (tB r0.xStamp)], (tB r1)], [], []⟩)
  | _, _ => none
def ca_recv_firsts_1 {R : Type} (cp : Nat → Nat → Bool) (n : Nat) (av : Fr) (cs : List Fr) (k : Ret2 RW → Option R) : Option R := match av, cs with
  | [y0, y1], [w0] => (dA y0).bind fun c0_ => (dSpan c0_).bind fun p0 => (dP 16 0 y1).bind fun _ => (dSpan w0).bind fun q0 => G_recv_firsts_1 cp n p0 q0 (fun r0 r1 => k ⟨(tB r0), [(eSpan r1)], []⟩)
  | _, _ => none
def ca_slices_IndexFunc_Span {R : Type} (cp : Nat → Nat → Bool) (n : Nat) (av : Fr) (cs : List Fr) (k : Ret2 RW → Option R) : Option R := match av, cs with
  | [y0, y1], [w0] => (dRSpan false y0).bind fun p0 => (dC 63 [(19, 0)] y1).bind fun _ => (dSpan w0).bind fun q0 => G_slices_IndexFunc_Span cp n p0 q0 (fun r0 r1 => k ⟨(tL r0), [(eSpan r1)], []⟩)
  | _, _ => none
def ca_recv_firsts {R : Type} (cp : Nat → Nat → Bool) (n : Nat) (av : Fr) (cs : List Fr) (k : Ret2 RW → Option R) : Option R := match av, cs with
  | [y0, y1, y2], [] => (dA y0).bind fun c0_ => (dRecv c0_).bind fun p0 => (dI .i64 y1).bind fun p1 => (dRuint8 false y2).bind fun p2 => G_recv_firsts cp n p0 p1 p2 (fun r0 => k ⟨.row true (.rSpan r0), [], []⟩)
  | _, _ => none
def ca_recv_Input {R : Type} (cp : Nat → Nat → Bool) (n : Nat) (av : Fr) (cs : List Fr) (k : Ret2 RW → Option R) : Option R := match av, cs with
  | [y0, y1], [] => (dA y0).bind fun c0_ => (dRecv c0_).bind fun p0 => (dA y1).bind fun c1_ => (dSegment c1_).bind fun p1 => G_recv_Input cp n p0 p1 (fun r0 r1 r2 r3 => k ⟨.tup [.agg (eRecv r0), .agg (eSegment r1), (tB r2), (tL r3)], [], []⟩)
  | _, _ => none
def ca_seq_Clamp {R : Type} (cp : Nat → Nat → Bool) (n : Nat) (av : Fr) (cs : List Fr) (k : Ret2 RW → Option R) : Option R := match av, cs with
  | [y0, y1, y2], [] => (dI .i64 y0).bind fun p0 => (dI .i64 y1).bind fun p1 => (dI .i64 y2).bind fun p2 => G_seq_Clamp cp n p0 p1 p2 (fun r0 => k ⟨(tL r0), [], []⟩)
  | _, _ => none
def ca_recv_Read {R : Type} (cp : Nat → Nat → Bool) (n : Nat) (av : Fr) (cs : List Fr) (k : Ret2 RW → Option R) : Option R := match av, cs with
  | [y0, y1], [] => (dA y0).bind fun c0_ => (dRecv c0_).bind fun p0 => (dI .i64 y1).bind fun p1 => G_recv_Read cp n p0 p1 (fun r0 r1 r2 r3 r4 => k ⟨.tup [.agg (eRecv r0), .row false (.ruint8 r1), .agg (eSegment r2), (tB r3), (tL r4)], [], []⟩)
  | _, _ => none
def ca_recv_Window {R : Type} (cp : Nat → Nat → Bool) (n : Nat) (av : Fr) (cs : List Fr) (k : Ret2 RW → Option R) : Option R := match av, cs with
  | [y0], [] => (dA y0).bind fun c0_ => (dRecv c0_).bind fun p0 => G_recv_Window cp n p0 (fun r0 => k ⟨(tL r0), [], []⟩)
  | _, _ => none
def ca_law08_heads {R : Type} (cp : Nat → Nat → Bool) (n : Nat) (av : Fr) (cs : List Fr) (k : Ret2 RW → Option R) : Option R := match av, cs with
  | [], [] => G_law08_heads cp n (fun r0 => k ⟨(tB r0), [], []⟩)
  | _, _ => none
def ca_law08_RecvOld {R : Type} (cp : Nat → Nat → Bool) (n : Nat) (av : Fr) (cs : List Fr) (k : Ret2 RW → Option R) : Option R := match av, cs with
  | [y0, y1, y2], [] => (dA y0).bind fun c0_ => (dRecv c0_).bind fun p0 => (dA y1).bind fun c1_ => (dSegment c1_).bind fun p1 => (dI .i64 y2).bind fun p2 => G_law08_RecvOld cp n p0 p1 p2 (fun r0 => k ⟨(tB r0), [], []⟩)
  | _, _ => none
def callP {R : Type} (cp : Nat → Nat → Bool) (n : Nat) (id : Nat) (av : Fr) (cs : List Fr) (k : Ret2 RW → Option R) : Option R := match id with
  | 27 => ca_recv_reach cp n av cs k
  | 53 => ca_recv_limit cp n av cs k
  | 55 => ca_recv_late cp n av cs k
  | 71 => ca_recv_of cp n av cs k
  | 1007 => ca_slices_AppendSeq_Span cp n av cs k
  | 1006 => ca_slices_Collect cp n av cs k
  | 72 => ca_slices_Index_Span cp n av cs k
  | 56 => ca_slices_Contains_Span cp n av cs k
  | 28 => ca_recv_pieces cp n av cs k
  | 10 => ca_recv_Check cp n av cs k
  | 49 => ca_recv_window cp n av cs k
  | 17 => ca_recv_New cp n av cs k
  | 57 => ca_slices_Clone_Span cp n av cs k
  | 52 => ca_bytes_Clone cp n av cs k
  | 29 => ca_recv_copied cp n av cs k
  | 31 => ca_seq_Diff cp n av cs k
  | 58 => ca_seq_Sum cp n av cs k
  | 30 => ca_seq_Unwrap cp n av cs k
  | 36 => ca_seq_Add cp n av cs k
  | 32 => ca_recv_tell cp n av cs k
  | 33 => ca_recv_end cp n av cs k
  | 82 => ca_span_may cp n av cs k
  | 78 => ca_span_Check cp n av cs k
  | 79 => ca_span_within cp n av cs k
  | 61 => ca_span_Gaps cp n av cs k
  | 74 => ca_recv_put_1 cp n av cs k
  | 1031 => ca_slices_BinarySearchFunc_Piece cp n av cs k
  | 1033 => ca_slices_Clone_Piece cp n av cs k
  | 75 => ca_slices_Insert_Piece cp n av cs k
  | 77 => ca_slices_Clip_byte cp n av cs k
  | 60 => ca_recv_put cp n av cs k
  | 1029 => ca_recv_take_1 cp n av cs k
  | 34 => ca_recv_take cp n av cs k
  | 1038 => ca_recv_firsts_1 cp n av cs k
  | 1037 => ca_slices_IndexFunc_Span cp n av cs k
  | 35 => ca_recv_firsts cp n av cs k
  | 12 => ca_recv_Input cp n av cs k
  | 51 => ca_seq_Clamp cp n av cs k
  | 20 => ca_recv_Read cp n av cs k
  | 22 => ca_recv_Window cp n av cs k
  | 11 => ca_law08_heads cp n av cs k
  | 3 => ca_law08_RecvOld cp n av cs k
  | _ => none
end
end Go.Proofs.Ytilmdmjhdidoiaa.M
