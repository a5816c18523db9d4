/- The values of the program's functions, and the functions, plain. -/
import Derived.Test.YtapelpfcflgjkaaMachX
set_option maxRecDepth 100000
set_option linter.unusedVariables false
namespace Go.Proofs.Ytapelpfcflgjkaa.M
open Go
noncomputable section
def str_ : ByteArray := ⟨#[]⟩
structure SSpan where
  xFrom : Int
  xTo : Int
def zSpan : SSpan := ⟨0, 0⟩
inductive RW where
  | rSpan (xs : List SSpan)

abbrev Fr := List (TV RW)
abbrev FF := FT RW
def tI (k : IntKind) (n : Int) : TV RW := .sc (.int k n)
def tL (n : Int) : TV RW := .sc (.int .i64 n)
def tB (b : Bool) : TV RW := .sc (.bool b)
def dT : Nat → Fr → Fr
  | 0, l => l
  | n + 1, l => .dead :: dT n l
def dc : Fr := dT 16 []
def eSpan (x : SSpan) : List (TV RW) := [(tL x.xFrom), (tL x.xTo)]
def cSpan (x : SSpan) : List AV := [.sc (.int .i64 x.xFrom), .sc (.int .i64 x.xTo)]
def dOne : Fr → Option (TV RW)
  | [x] => some x
  | _ => none
def dI (kd : IntKind) : TV RW → Option Int
  | .sc (.int k a) => cond (decide (k = kd)) (some a) none
  | _ => none
def dB : TV RW → Option Bool
  | .sc (.bool b) => some b
  | _ => none
def dS : TV RW → Option ByteArray
  | .sc (.string b) => some b
  | _ => none
def dA : TV RW → Option Fr
  | .agg cs => some cs
  | _ => none
def dP (h j : Nat) : TV RW → Option Unit
  | .ptr a b => cond (Nat.beq a h && Nat.beq b j) (some ()) none
  | _ => none
def dC (f : Nat) (cs : List (Nat × Nat)) : TV RW → Option Unit
  | .clo a b => cond (Nat.beq a f && decide (b = cs)) (some ()) none
  | _ => none
def dRSpan (fl : Bool) : TV RW → Option (List SSpan)
  | .row a (.rSpan xs) => cond (a == fl) (some xs) none
  | _ => none
def dSpan : Fr → Option SSpan
  | [y0, y1] => (dI .i64 y0).bind fun a0 => (dI .i64 y1).bind fun a1 => some ⟨a0, a1⟩
  | _ => none
def pSpan_ : Fr → Option (List SSpan)
  | [] => some []
  | y0 :: y1 :: r => (dI .i64 y0).bind fun a0 => (dI .i64 y1).bind fun a1 => (pSpan_ r).bind fun xs => some (⟨a0, a1⟩ :: xs)
  | _ => none

def U : Uni RW where
  sz := fun r => match r with
    | .rSpan xs => 2
  len := fun r => match r with
    | .rSpan xs => xs.length
  getA := fun r => match r with
    | .rSpan xs => rg cSpan zSpan xs
  get := fun r i => match r with
    | .rSpan xs => eSpan (xs.getD i zSpan)
  app := fun r q => match r with
    | .rSpan xs => (match q with
      | .rSpan ys => some (.rSpan (xs ++ ys)))
  sub := fun lo n r => match r with
    | .rSpan xs => .rSpan (List.take n (xs.drop lo))
  szt := fun t => match t with
    | 24 => 2
    | _ => 0
  zt := fun t => match t with
    | 24 => eSpan zSpan
    | _ => []
  lit := fun t n L => match t with
    | 24 => (pSpan_ L).bind fun xs => cond (Nat.beq xs.length n) (some (.rSpan xs)) none
    | _ => none
/-! tideway/span.may -/
def G_span_may {R : Type} (cp : Nat → Nat → Bool) : Nat → SSpan → (Bool → Option R) → Option R
  | 0, _, _ => none
  | n + 1, p0, k =>
    cond (decide (0 ≤ p0.xFrom)) (cond (decide (p0.xFrom ≤ p0.xTo)) (k (decide (p0.xTo ≤ 1125899906842624))) (k false)) (k false)
/-! tideway/span.Check -/
def s_span_Check_1 {R : Type} (cp : Nat → Nat → Bool) (n : Nat) (p0 : (List SSpan)) (kn : Option R) : Option R :=
  kn
def s_span_Check_3 {R : Type} (cp : Nat → Nat → Bool) (n : Nat) (p0 : (List SSpan)) (kn : Int → Option R) : Option R :=
  kn (p0.length : Int)
def s_span_Check_5 {R : Type} (cp : Nat → Nat → Bool) (n : Nat) (p0 : (List SSpan)) (v1 v2 : Int) (kn : Int → Option R) (kr : Option R) (ke0 : Option R) : Option R :=
  cond (decide (v2 < v1)) (cond (decide (0 ≤ v2)) (cond (decide (v2 < (p0.length : Int))) (G_span_may cp n (p0.getD (Int.toNat v2) zSpan) (fun r3 => cond (!r3) (kr) (cond (decide (((p0.getD (Int.toNat v2) zSpan).xFrom) = ((p0.getD (Int.toNat v2) zSpan).xTo))) (kr) (cond (decide (0 < v2)) (cond (decide (0 ≤ wr .i64 (v2 - 1))) (cond (decide (wr .i64 (v2 - 1) < (p0.length : Int))) (cond (decide (((p0.getD (Int.toNat v2) zSpan).xFrom) ≤ ((p0.getD (Int.toNat (wr .i64 (v2 - 1))) zSpan).xTo))) (kr) (kn (wr .i64 (v2 + 1)))) (none)) (none)) (kn (wr .i64 (v2 + 1))))))) (none)) (none)) (ke0)
def l_span_Check_10 {R : Type} (cp : Nat → Nat → Bool) (n : Nat) : Nat → (List SSpan) → Int → Int → (Option R) → (Option R) → Option R
  | 0, _, _, _, _, _ => none
  | m + 1, p0, v1, v2, kr, ke0 =>
    s_span_Check_5 cp n p0 v1 v2 (fun v4 => l_span_Check_10 cp n m p0 v1 v4 kr ke0) kr ke0
def s_span_Check_11 {R : Type} (cp : Nat → Nat → Bool) (n : Nat) (p0 : (List SSpan)) (v1 : Int) (kr : Option R) (ke0 : Option R) : Option R :=
  l_span_Check_10 cp n n p0 v1 0 kr ke0
def s_span_Check_12 {R : Type} (cp : Nat → Nat → Bool) (n : Nat) (p0 : (List SSpan)) (v1 : Int) (kn : Option R) (kr : Option R) : Option R :=
  s_span_Check_11 cp n p0 v1 kr kn
def s_span_Check_13 {R : Type} (cp : Nat → Nat → Bool) (n : Nat) (p0 : (List SSpan)) (kn : Option R) (kr : Option R) : Option R :=
  s_span_Check_3 cp n p0 (fun v1 => s_span_Check_12 cp n p0 v1 kn kr)
def s_span_Check_14 {R : Type} (cp : Nat → Nat → Bool) (n : Nat) (kr : Option R) : Option R :=
  kr
def s_span_Check_17 {R : Type} (cp : Nat → Nat → Bool) (n : Nat) (p0 : (List SSpan)) (kr : Int → Option R) : Option R :=
  s_span_Check_13 cp n p0 (s_span_Check_14 cp n (kr 0)) (kr 60)
def s_span_Check_19 {R : Type} (cp : Nat → Nat → Bool) (n : Nat) (p0 : (List SSpan)) (kr : Int → Option R) : Option R :=
  s_span_Check_1 cp n p0 (s_span_Check_17 cp n p0 (fun v5 => (kr v5)))
def G_span_Check {R : Type} (cp : Nat → Nat → Bool) : Nat → (List SSpan) → (Int → Option R) → Option R
  | 0, _, _ => none
  | n + 1, p0, k =>
    s_span_Check_19 cp n p0 (fun v6 => k v6)
/-! tideway/span.right -/
def G_span_right {R : Type} (cp : Nat → Nat → Bool) : Nat → (List SSpan) → SSpan → (Int → Option R) → Option R
  | 0, _, _, _ => none
  | n + 1, p0, p1, k =>
    G_span_Check cp n p0 (fun r7 => cond (!decide (r7 = 0)) (k r7) (G_span_may cp n p1 (fun r8 => cond (!r8) (k 2) (k 0))))
/-! slices.Clone[[]tideway/api.Span,tideway/api.Span] -/
def G_slices_Clone_Span {R : Type} (cp : Nat → Nat → Bool) : Nat → (List SSpan) → ((List SSpan) → Option R) → Option R
  | 0, _, _ => none
  | n + 1, p0, k => cond (cp (0 + p0.length) 16) (k p0) none
/-! tideway/span.Add -/
def s_span_Add_1 {R : Type} (cp : Nat → Nat → Bool) (n : Nat) (p0 : (List SSpan)) (p1 : SSpan) (kn : Option R) (kr : (List SSpan) → Int → Option R) : Option R :=
  G_span_right cp n p0 p1 (fun r14 => cond (!decide (r14 = 0)) (kr [] r14) (cond (decide (p1.xFrom = p1.xTo)) (G_slices_Clone_Span cp n p0 (fun r15 => kr r15 0)) (kn)))
def s_span_Add_4 {R : Type} (cp : Nat → Nat → Bool) (n : Nat) (p0 : (List SSpan)) (p1 : SSpan) (v18 : (List SSpan)) (v19 : Int) (kn : (List SSpan) → Int → Option R) (ke0 : Option R) : Option R :=
  cond (decide (v19 < (p0.length : Int))) (cond (decide (0 ≤ v19)) (cond (decide (v19 < (p0.length : Int))) (cond (decide (((p0.getD (Int.toNat v19) zSpan).xTo) < p1.xFrom)) (cond (decide (0 ≤ v19)) (cond (decide (v19 < (p0.length : Int))) (cond (cp (v18.length + [(p0.getD (Int.toNat v19) zSpan)].length) 16) (kn (v18 ++ [(p0.getD (Int.toNat v19) zSpan)]) (wr .i64 (v19 + 1))) (none)) (none)) (none)) (ke0)) (none)) (none)) (ke0)
def l_span_Add_8 {R : Type} (cp : Nat → Nat → Bool) (n : Nat) : Nat → (List SSpan) → SSpan → (List SSpan) → Int → ((List SSpan) → Int → Option R) → Option R
  | 0, _, _, _, _, _ => none
  | m + 1, p0, p1, v18, v19, ke0 =>
    s_span_Add_4 cp n p0 p1 v18 v19 (fun v20 v21 => l_span_Add_8 cp n m p0 p1 v20 v21 ke0) (ke0 v18 v19)
def s_span_Add_9 {R : Type} (cp : Nat → Nat → Bool) (n : Nat) (p0 : (List SSpan)) (p1 : SSpan) (ke0 : (List SSpan) → Int → Option R) : Option R :=
  l_span_Add_8 cp n n p0 p1 [] 0 ke0
def s_span_Add_11 {R : Type} (cp : Nat → Nat → Bool) (n : Nat) (p0 : (List SSpan)) (p1 : SSpan) (kn : (List SSpan) → Int → Option R) : Option R :=
  s_span_Add_9 cp n p0 p1 (fun v22 v23 => (kn v22 v23))
def s_span_Add_12 {R : Type} (cp : Nat → Nat → Bool) (n : Nat) (p0 v24 : (List SSpan)) (v26 v27 v28 : Int) (kn : Int → Int → Int → Option R) (ke2 : Option R) : Option R :=
  cond (decide (v26 < (p0.length : Int))) (cond (decide (0 ≤ v26)) (cond (decide (v26 < (p0.length : Int))) (cond (decide (((p0.getD (Int.toNat v26) zSpan).xFrom) ≤ v28)) (cond (decide (0 ≤ v26)) (cond (decide (v26 < (p0.length : Int))) (cond (decide (0 ≤ v26)) (cond (decide (v26 < (p0.length : Int))) (kn (wr .i64 (v26 + 1)) (mn v27 ((p0.getD (Int.toNat v26) zSpan).xFrom)) (mx v28 ((p0.getD (Int.toNat v26) zSpan).xTo))) (none)) (none)) (none)) (none)) (ke2)) (none)) (none)) (ke2)
def l_span_Add_16 {R : Type} (cp : Nat → Nat → Bool) (n : Nat) : Nat → (List SSpan) → (List SSpan) → Int → Int → Int → (Int → Int → Int → Option R) → Option R
  | 0, _, _, _, _, _, _ => none
  | m + 1, p0, v24, v26, v27, v28, ke2 =>
    s_span_Add_12 cp n p0 v24 v26 v27 v28 (fun v29 v30 v31 => l_span_Add_16 cp n m p0 v24 v29 v30 v31 ke2) (ke2 v26 v27 v28)
def s_span_Add_17 {R : Type} (cp : Nat → Nat → Bool) (n : Nat) (p0 : (List SSpan)) (p1 : SSpan) (v24 : (List SSpan)) (v25 : Int) (ke2 : Int → Int → Int → Option R) : Option R :=
  l_span_Add_16 cp n n p0 v24 v25 p1.xFrom p1.xTo ke2
def s_span_Add_19 {R : Type} (cp : Nat → Nat → Bool) (n : Nat) (p0 : (List SSpan)) (p1 : SSpan) (v24 : (List SSpan)) (v25 : Int) (kn : Int → Int → Int → Option R) : Option R :=
  s_span_Add_17 cp n p0 p1 v24 v25 (fun v32 v33 v34 => (kn v32 v33 v34))
def s_span_Add_20 {R : Type} (cp : Nat → Nat → Bool) (n : Nat) (p0 v24 : (List SSpan)) (v35 v36 v37 : Int) (kr : (List SSpan) → Option R) : Option R :=
  cond (cp (v24.length + [(SSpan.mk v36 v37)].length) 16) (cond (decide (0 ≤ v35)) (cond (decide (v35 ≤ (p0.length : Int))) (cond (cp ((v24 ++ [(SSpan.mk v36 v37)]).length + (List.take (p0.length - (Int.toNat v35)) (p0.drop (Int.toNat v35))).length) 16) (kr ((v24 ++ [(SSpan.mk v36 v37)]) ++ (List.take (p0.length - (Int.toNat v35)) (p0.drop (Int.toNat v35))))) (none)) (none)) (none)) (none)
def s_span_Add_23 {R : Type} (cp : Nat → Nat → Bool) (n : Nat) (p0 : (List SSpan)) (p1 : SSpan) (v24 : (List SSpan)) (v25 : Int) (kr : (List SSpan) → Option R) : Option R :=
  s_span_Add_19 cp n p0 p1 v24 v25 (fun v35 v36 v37 => s_span_Add_20 cp n p0 v24 v35 v36 v37 (fun v38 => (kr v38)))
def s_span_Add_25 {R : Type} (cp : Nat → Nat → Bool) (n : Nat) (p0 : (List SSpan)) (p1 : SSpan) (kr : (List SSpan) → Option R) : Option R :=
  s_span_Add_11 cp n p0 p1 (fun v24 v25 => s_span_Add_23 cp n p0 p1 v24 v25 (fun v39 => (kr v39)))
def s_span_Add_27 {R : Type} (cp : Nat → Nat → Bool) (n : Nat) (p0 : (List SSpan)) (p1 : SSpan) (kr : (List SSpan) → Int → Option R) : Option R :=
  s_span_Add_1 cp n p0 p1 (s_span_Add_25 cp n p0 p1 (fun v40 => (kr v40 0))) (fun v16 v17 => (kr v16 v17))
def G_span_Add {R : Type} (cp : Nat → Nat → Bool) : Nat → (List SSpan) → SSpan → ((List SSpan) → Int → Option R) → Option R
  | 0, _, _, _ => none
  | n + 1, p0, p1, k =>
    s_span_Add_27 cp n p0 p1 (fun v41 v42 => k v41 v42)
/-! tideway/span.within -/
def G_span_within {R : Type} (cp : Nat → Nat → Bool) : Nat → (List SSpan) → SSpan → ((List SSpan) → SSpan → Option R) → Option R
  | 0, _, _, _ => none
  | n + 1, p0, p1, k =>
    k p0 p1
/-! tideway/span.Gaps -/
def s_span_Gaps_1 {R : Type} (cp : Nat → Nat → Bool) (n : Nat) (p0 : (List SSpan)) (p1 : SSpan) (kn : Option R) (kr : Option R) : Option R :=
  G_span_Check cp n p0 (fun r51 => cond (!decide (r51 = 0)) (kr) (cond (decide (p1.xTo ≤ p1.xFrom)) (kr) (kn)))
def s_span_Gaps_4 {R : Type} (cp : Nat → Nat → Bool) (n : Nat) (p0 : (List SSpan)) (p1 : SSpan) (kn : (List SSpan) → Int → Int → Option R) : Option R :=
  G_span_within cp n p0 p1 (fun r52 r53 => kn r52 r53.xFrom r53.xTo)
def s_span_Gaps_8 {R : Type} (cp : Nat → Nat → Bool) (n : Nat) (p1 : SSpan) (v54 : (List SSpan)) (v55 v56 : Int) (kn : Int → Option R) : Option R :=
  kn (v54.length : Int)
def s_span_Gaps_10 {R : Type} (cp : Nat → Nat → Bool) (n : Nat) (p1 : SSpan) (v54 : (List SSpan)) (v55 v56 v57 v58 : Int) (v59 : (List SSpan)) (v60 : Int) (kn : Option R) (ke0 : Option R) : Option R :=
  cond (decide (v58 < v57)) (kn) (ke0)
def s_span_Gaps_13 {R : Type} (cp : Nat → Nat → Bool) (n : Nat) (p1 : SSpan) (v54 : (List SSpan)) (v55 v56 v57 v58 : Int) (v59 : (List SSpan)) (v60 : Int) (kn : Int → Int → Option R) : Option R :=
  cond (decide (0 ≤ v58)) (cond (decide (v58 < (v54.length : Int))) (kn (mx ((v54.getD (Int.toNat v58) zSpan).xFrom) v55) (mn ((v54.getD (Int.toNat v58) zSpan).xTo) v56)) (none)) (none)
def s_span_Gaps_15 {R : Type} (cp : Nat → Nat → Bool) (n : Nat) (p1 : SSpan) (v54 : (List SSpan)) (v55 v56 v57 v58 : Int) (v59 : (List SSpan)) (v60 v61 v62 : Int) (ka : Bool → Option R) (kb : Bool → Option R) : Option R :=
  cond (decide (v61 < v62)) (ka (decide (v61 < v62))) (kb (decide (v61 < v62)))
def s_span_Gaps_18 {R : Type} (cp : Nat → Nat → Bool) (n : Nat) (p1 : SSpan) (v54 : (List SSpan)) (v55 v56 : Int) (v59 : (List SSpan)) (v60 v61 v62 : Int) (kn : (List SSpan) → Option R) : Option R :=
  cond (decide (v60 < v61)) (cond (cp (v59.length + [(SSpan.mk v60 v61)].length) 16) (kn (v59 ++ [(SSpan.mk v60 v61)])) (none)) (kn v59)
def s_span_Gaps_24 {R : Type} (cp : Nat → Nat → Bool) (n : Nat) (p1 : SSpan) (v54 : (List SSpan)) (v55 v56 v57 v58 : Int) (v59 : (List SSpan)) (v60 v61 v62 : Int) (kn : (List SSpan) → Int → Option R) : Option R :=
  s_span_Gaps_15 cp n p1 v54 v55 v56 v57 v58 v59 v60 v61 v62 (fun v63 => s_span_Gaps_18 cp n p1 v54 v55 v56 v59 v60 v61 v62 (fun v65 => kn v65 v62)) (fun v64 => kn v59 v60)
def s_span_Gaps_25 {R : Type} (cp : Nat → Nat → Bool) (n : Nat) (p1 : SSpan) (v54 : (List SSpan)) (v55 v56 v57 v58 : Int) (v66 : (List SSpan)) (v67 : Int) (kn : Option R) : Option R :=
  kn
def s_span_Gaps_28 {R : Type} (cp : Nat → Nat → Bool) (n : Nat) (p1 : SSpan) (v54 : (List SSpan)) (v55 v56 v57 v58 : Int) (v59 : (List SSpan)) (v60 v61 v62 : Int) (kn : (List SSpan) → Int → Option R) : Option R :=
  s_span_Gaps_24 cp n p1 v54 v55 v56 v57 v58 v59 v60 v61 v62 (fun v66 v67 => s_span_Gaps_25 cp n p1 v54 v55 v56 v57 v58 v66 v67 (kn v66 v67))
def s_span_Gaps_30 {R : Type} (cp : Nat → Nat → Bool) (n : Nat) (p1 : SSpan) (v54 : (List SSpan)) (v55 v56 v57 v58 : Int) (v59 : (List SSpan)) (v60 : Int) (kn : (List SSpan) → Int → Option R) : Option R :=
  s_span_Gaps_13 cp n p1 v54 v55 v56 v57 v58 v59 v60 (fun v61 v62 => s_span_Gaps_28 cp n p1 v54 v55 v56 v57 v58 v59 v60 v61 v62 (fun v68 v69 => (kn v68 v69)))
def s_span_Gaps_32 {R : Type} (cp : Nat → Nat → Bool) (n : Nat) (p1 : SSpan) (v54 : (List SSpan)) (v55 v56 v57 v58 : Int) (v59 : (List SSpan)) (v60 : Int) (kn : (List SSpan) → Int → Option R) : Option R :=
  s_span_Gaps_30 cp n p1 v54 v55 v56 v57 v58 v59 v60 (fun v70 v71 => (kn v70 v71))
def s_span_Gaps_33 {R : Type} (cp : Nat → Nat → Bool) (n : Nat) (p1 : SSpan) (v54 : (List SSpan)) (v55 v56 v57 v58 : Int) (v72 : (List SSpan)) (v73 : Int) (kn : Int → Option R) : Option R :=
  kn (wr .i64 (v58 + 1))
def s_span_Gaps_36 {R : Type} (cp : Nat → Nat → Bool) (n : Nat) (p1 : SSpan) (v54 : (List SSpan)) (v55 v56 v57 v58 : Int) (v59 : (List SSpan)) (v60 : Int) (kn : Int → (List SSpan) → Int → Option R) : Option R :=
  s_span_Gaps_32 cp n p1 v54 v55 v56 v57 v58 v59 v60 (fun v72 v73 => s_span_Gaps_33 cp n p1 v54 v55 v56 v57 v58 v72 v73 (fun v74 => (kn v74 v72 v73)))
def s_span_Gaps_38 {R : Type} (cp : Nat → Nat → Bool) (n : Nat) (p1 : SSpan) (v54 : (List SSpan)) (v55 v56 v57 v58 : Int) (v59 : (List SSpan)) (v60 : Int) (kn : Int → (List SSpan) → Int → Option R) (ke0 : Option R) : Option R :=
  s_span_Gaps_10 cp n p1 v54 v55 v56 v57 v58 v59 v60 (s_span_Gaps_36 cp n p1 v54 v55 v56 v57 v58 v59 v60 (fun v75 v76 v77 => (kn v75 v76 v77))) ke0
def l_span_Gaps_40 {R : Type} (cp : Nat → Nat → Bool) (n : Nat) : Nat → SSpan → (List SSpan) → Int → Int → Int → Int → (List SSpan) → Int → ((List SSpan) → Int → Option R) → Option R
  | 0, _, _, _, _, _, _, _, _, _ => none
  | m + 1, p1, v54, v55, v56, v57, v58, v59, v60, ke0 =>
    s_span_Gaps_38 cp n p1 v54 v55 v56 v57 v58 v59 v60 (fun v78 v79 v80 => l_span_Gaps_40 cp n m p1 v54 v55 v56 v57 v78 v79 v80 ke0) (ke0 v59 v60)
def s_span_Gaps_41 {R : Type} (cp : Nat → Nat → Bool) (n : Nat) (p1 : SSpan) (v54 : (List SSpan)) (v55 v56 v57 : Int) (ke0 : (List SSpan) → Int → Option R) : Option R :=
  l_span_Gaps_40 cp n n p1 v54 v55 v56 v57 0 [] p1.xFrom ke0
def s_span_Gaps_43 {R : Type} (cp : Nat → Nat → Bool) (n : Nat) (p1 : SSpan) (v54 : (List SSpan)) (v55 v56 v57 : Int) (kn : (List SSpan) → Int → Option R) : Option R :=
  s_span_Gaps_41 cp n p1 v54 v55 v56 v57 (fun v81 v82 => (kn v81 v82))
def s_span_Gaps_45 {R : Type} (cp : Nat → Nat → Bool) (n : Nat) (p1 : SSpan) (v54 : (List SSpan)) (v55 v56 : Int) (kn : (List SSpan) → Int → Option R) : Option R :=
  s_span_Gaps_8 cp n p1 v54 v55 v56 (fun v57 => s_span_Gaps_43 cp n p1 v54 v55 v56 v57 (fun v83 v84 => (kn v83 v84)))
def s_span_Gaps_48 {R : Type} (cp : Nat → Nat → Bool) (n : Nat) (p1 : SSpan) (v54 : (List SSpan)) (v55 v56 : Int) (kn : (List SSpan) → Int → Option R) : Option R :=
  s_span_Gaps_45 cp n p1 v54 v55 v56 (fun v85 v86 => (kn v85 v86))
def s_span_Gaps_50 {R : Type} (cp : Nat → Nat → Bool) (n : Nat) (p1 : SSpan) (v54 : (List SSpan)) (v55 v56 : Int) (kn : (List SSpan) → Int → Option R) : Option R :=
  s_span_Gaps_48 cp n p1 v54 v55 v56 (fun v87 v88 => (kn v87 v88))
def s_span_Gaps_52 {R : Type} (cp : Nat → Nat → Bool) (n : Nat) (p0 : (List SSpan)) (p1 : SSpan) (kn : (List SSpan) → Int → Option R) : Option R :=
  s_span_Gaps_4 cp n p0 p1 (fun v54 v55 v56 => s_span_Gaps_50 cp n p1 v54 v55 v56 (fun v89 v90 => (kn v89 v90)))
def s_span_Gaps_53 {R : Type} (cp : Nat → Nat → Bool) (n : Nat) (p1 : SSpan) (v91 : (List SSpan)) (v92 : Int) (kr : (List SSpan) → Option R) : Option R :=
  cond (decide (v92 < p1.xTo)) (cond (cp (v91.length + [(SSpan.mk v92 p1.xTo)].length) 16) (kr (v91 ++ [(SSpan.mk v92 p1.xTo)])) (none)) (kr v91)
def s_span_Gaps_56 {R : Type} (cp : Nat → Nat → Bool) (n : Nat) (p0 : (List SSpan)) (p1 : SSpan) (kr : (List SSpan) → Option R) : Option R :=
  s_span_Gaps_52 cp n p0 p1 (fun v91 v92 => s_span_Gaps_53 cp n p1 v91 v92 (fun v93 => (kr v93)))
def s_span_Gaps_58 {R : Type} (cp : Nat → Nat → Bool) (n : Nat) (p0 : (List SSpan)) (p1 : SSpan) (kr : (List SSpan) → Option R) : Option R :=
  s_span_Gaps_1 cp n p0 p1 (s_span_Gaps_56 cp n p0 p1 (fun v94 => (kr v94))) (kr [])
def G_span_Gaps {R : Type} (cp : Nat → Nat → Bool) : Nat → (List SSpan) → SSpan → ((List SSpan) → Option R) → Option R
  | 0, _, _, _ => none
  | n + 1, p0, p1, k =>
    s_span_Gaps_58 cp n p0 p1 (fun v95 => k v95)
/-! tideway/tidewayref06.Same -/
def s_ref06_Same_1 {R : Type} (cp : Nat → Nat → Bool) (n : Nat) (p0 p1 : (List SSpan)) (kn : Option R) (kr : Option R) : Option R :=
  cond (!decide ((p0.length : Int) = (p1.length : Int))) (kr) (kn)
def s_ref06_Same_4 {R : Type} (cp : Nat → Nat → Bool) (n : Nat) (p0 p1 : (List SSpan)) (kn : Option R) : Option R :=
  kn
def s_ref06_Same_6 {R : Type} (cp : Nat → Nat → Bool) (n : Nat) (p0 p1 : (List SSpan)) (v99 : Int) (kn : Int → Option R) (kr : Option R) (ke0 : Option R) : Option R :=
  cond (decide (v99 < (p0.length : Int))) (cond (decide (0 ≤ v99)) (cond (decide (v99 < (p0.length : Int))) (cond (decide (0 ≤ v99)) (cond (decide (v99 < (p1.length : Int))) (cond (!(decide ((p0.getD (Int.toNat v99) zSpan).xFrom = (p1.getD (Int.toNat v99) zSpan).xFrom) && (decide ((p0.getD (Int.toNat v99) zSpan).xTo = (p1.getD (Int.toNat v99) zSpan).xTo) && true))) (kr) (kn (wr .i64 (v99 + 1)))) (none)) (none)) (none)) (none)) (ke0)
def l_ref06_Same_10 {R : Type} (cp : Nat → Nat → Bool) (n : Nat) : Nat → (List SSpan) → (List SSpan) → Int → (Option R) → (Option R) → Option R
  | 0, _, _, _, _, _ => none
  | m + 1, p0, p1, v99, kr, ke0 =>
    s_ref06_Same_6 cp n p0 p1 v99 (fun v100 => l_ref06_Same_10 cp n m p0 p1 v100 kr ke0) kr ke0
def s_ref06_Same_11 {R : Type} (cp : Nat → Nat → Bool) (n : Nat) (p0 p1 : (List SSpan)) (kr : Option R) (ke0 : Option R) : Option R :=
  l_ref06_Same_10 cp n n p0 p1 0 kr ke0
def s_ref06_Same_12 {R : Type} (cp : Nat → Nat → Bool) (n : Nat) (p0 p1 : (List SSpan)) (kn : Option R) (kr : Option R) : Option R :=
  s_ref06_Same_11 cp n p0 p1 kr kn
def s_ref06_Same_13 {R : Type} (cp : Nat → Nat → Bool) (n : Nat) (p0 p1 : (List SSpan)) (kn : Option R) (kr : Option R) : Option R :=
  s_ref06_Same_4 cp n p0 p1 (s_ref06_Same_12 cp n p0 p1 kn kr)
def s_ref06_Same_14 {R : Type} (cp : Nat → Nat → Bool) (n : Nat) (kr : Option R) : Option R :=
  kr
def s_ref06_Same_17 {R : Type} (cp : Nat → Nat → Bool) (n : Nat) (p0 p1 : (List SSpan)) (kr : Bool → Option R) : Option R :=
  s_ref06_Same_13 cp n p0 p1 (s_ref06_Same_14 cp n (kr true)) (kr false)
def s_ref06_Same_19 {R : Type} (cp : Nat → Nat → Bool) (n : Nat) (p0 p1 : (List SSpan)) (kr : Bool → Option R) : Option R :=
  s_ref06_Same_1 cp n p0 p1 (s_ref06_Same_17 cp n p0 p1 (fun v101 => (kr v101))) (kr false)
def G_ref06_Same {R : Type} (cp : Nat → Nat → Bool) : Nat → (List SSpan) → (List SSpan) → (Bool → Option R) → Option R
  | 0, _, _, _ => none
  | n + 1, p0, p1, k =>
    s_ref06_Same_19 cp n p0 p1 (fun v102 => k v102)
/-! tideway/span.Size -/
def s_span_Size_1 {R : Type} (cp : Nat → Nat → Bool) (n : Nat) (p0 : (List SSpan)) (kn : Option R) (kr : Option R) : Option R :=
  G_span_Check cp n p0 (fun r64 => cond (!decide (r64 = 0)) (kr) (kn))
def s_span_Size_4 {R : Type} (cp : Nat → Nat → Bool) (n : Nat) (p0 : (List SSpan)) (kn : Int → Option R) : Option R :=
  kn (p0.length : Int)
def s_span_Size_6 {R : Type} (cp : Nat → Nat → Bool) (n : Nat) (p0 : (List SSpan)) (v65 v66 v67 : Int) (kn : Int → Int → Option R) (ke0 : Option R) : Option R :=
  cond (decide (v67 < v65)) (cond (decide (0 ≤ v67)) (cond (decide (v67 < (p0.length : Int))) (kn (wr .i64 (v66 + (wr .i64 (((p0.getD (Int.toNat v67) zSpan).xTo) - ((p0.getD (Int.toNat v67) zSpan).xFrom))))) (wr .i64 (v67 + 1))) (none)) (none)) (ke0)
def l_span_Size_11 {R : Type} (cp : Nat → Nat → Bool) (n : Nat) : Nat → (List SSpan) → Int → Int → Int → (Int → Option R) → Option R
  | 0, _, _, _, _, _ => none
  | m + 1, p0, v65, v66, v67, ke0 =>
    s_span_Size_6 cp n p0 v65 v66 v67 (fun v68 v69 => l_span_Size_11 cp n m p0 v65 v68 v69 ke0) (ke0 v66)
def s_span_Size_12 {R : Type} (cp : Nat → Nat → Bool) (n : Nat) (p0 : (List SSpan)) (v65 : Int) (ke0 : Int → Option R) : Option R :=
  l_span_Size_11 cp n n p0 v65 0 0 ke0
def s_span_Size_14 {R : Type} (cp : Nat → Nat → Bool) (n : Nat) (p0 : (List SSpan)) (v65 : Int) (kn : Int → Option R) : Option R :=
  s_span_Size_12 cp n p0 v65 (fun v70 => (kn v70))
def s_span_Size_16 {R : Type} (cp : Nat → Nat → Bool) (n : Nat) (p0 : (List SSpan)) (kn : Int → Option R) : Option R :=
  s_span_Size_4 cp n p0 (fun v65 => s_span_Size_14 cp n p0 v65 (fun v71 => (kn v71)))
def s_span_Size_17 {R : Type} (cp : Nat → Nat → Bool) (n : Nat) (v72 : Int) (kr : Option R) : Option R :=
  kr
def s_span_Size_20 {R : Type} (cp : Nat → Nat → Bool) (n : Nat) (p0 : (List SSpan)) (kr : Int → Option R) : Option R :=
  s_span_Size_16 cp n p0 (fun v72 => s_span_Size_17 cp n v72 (kr v72))
def s_span_Size_22 {R : Type} (cp : Nat → Nat → Bool) (n : Nat) (p0 : (List SSpan)) (kr : Int → Option R) : Option R :=
  s_span_Size_1 cp n p0 (s_span_Size_20 cp n p0 (fun v73 => (kr v73))) (kr 0)
def G_span_Size {R : Type} (cp : Nat → Nat → Bool) : Nat → (List SSpan) → (Int → Option R) → Option R
  | 0, _, _ => none
  | n + 1, p0, k =>
    s_span_Size_22 cp n p0 (fun v74 => k v74)
/-! tideway/span.Find$1 -/
def G_span_Find_1 {R : Type} (cp : Nat → Nat → Bool) : Nat → SSpan → Int → (Bool → Int → Option R) → Option R
  | 0, _, _, _ => none
  | n + 1, p0, q0, k =>
    cond (decide (p0.xFrom ≤ q0)) (k (decide (q0 < p0.xTo)) q0) (k false q0)
/-! slices.IndexFunc[[]tideway/api.Span,tideway/api.Span] -/
def s_slices_IndexFunc_Span_1 {R : Type} (cp : Nat → Nat → Bool) (n : Nat) (p0 : (List SSpan)) (q0 : Int) (kn : Option R) : Option R :=
  kn
def s_slices_IndexFunc_Span_3 {R : Type} (cp : Nat → Nat → Bool) (n : Nat) (p0 : (List SSpan)) (q0 : Int) (kn : Int → Option R) : Option R :=
  kn (p0.length : Int)
def s_slices_IndexFunc_Span_5 {R : Type} (cp : Nat → Nat → Bool) (n : Nat) (p0 : (List SSpan)) (v77 v78 v79 : Int) (kn : Int → Int → Option R) (kr : Int → Option R) (ke0 : Option R) : Option R :=
  cond (decide (v78 < v77)) (cond (decide (0 ≤ v78)) (cond (decide (v78 < (p0.length : Int))) (G_span_Find_1 cp n (p0.getD (Int.toNat v78) zSpan) v79 (fun r80 r81 => cond (r80) (kr r81) (kn (wr .i64 (v78 + 1)) r81))) (none)) (none)) (ke0)
def l_slices_IndexFunc_Span_12 {R : Type} (cp : Nat → Nat → Bool) (n : Nat) : Nat → (List SSpan) → Int → Int → Int → (Int → Int → Option R) → (Int → Option R) → Option R
  | 0, _, _, _, _, _, _ => none
  | m + 1, p0, v77, v78, v79, kr, ke0 =>
    s_slices_IndexFunc_Span_5 cp n p0 v77 v78 v79 (fun v82 v83 => l_slices_IndexFunc_Span_12 cp n m p0 v77 v82 v83 kr ke0) (fun v84 => (kr v78 v84)) (ke0 v79)
def s_slices_IndexFunc_Span_13 {R : Type} (cp : Nat → Nat → Bool) (n : Nat) (p0 : (List SSpan)) (q0 v77 : Int) (kr : Int → Int → Option R) (ke0 : Int → Option R) : Option R :=
  l_slices_IndexFunc_Span_12 cp n n p0 v77 0 q0 kr ke0
def s_slices_IndexFunc_Span_16 {R : Type} (cp : Nat → Nat → Bool) (n : Nat) (p0 : (List SSpan)) (q0 v77 : Int) (kn : Int → Option R) (kr : Int → Int → Option R) : Option R :=
  s_slices_IndexFunc_Span_13 cp n p0 q0 v77 (fun v85 v86 => (kr v85 v86)) (fun v87 => (kn v87))
def s_slices_IndexFunc_Span_19 {R : Type} (cp : Nat → Nat → Bool) (n : Nat) (p0 : (List SSpan)) (q0 : Int) (kn : Int → Option R) (kr : Int → Int → Option R) : Option R :=
  s_slices_IndexFunc_Span_3 cp n p0 q0 (fun v77 => s_slices_IndexFunc_Span_16 cp n p0 q0 v77 (fun v88 => (kn v88)) (fun v89 v90 => (kr v89 v90)))
def s_slices_IndexFunc_Span_20 {R : Type} (cp : Nat → Nat → Bool) (n : Nat) (v91 : Int) (kr : Option R) : Option R :=
  kr
def s_slices_IndexFunc_Span_23 {R : Type} (cp : Nat → Nat → Bool) (n : Nat) (p0 : (List SSpan)) (q0 : Int) (kr : Int → Int → Option R) : Option R :=
  s_slices_IndexFunc_Span_19 cp n p0 q0 (fun v91 => s_slices_IndexFunc_Span_20 cp n v91 (kr (-1) v91)) (fun v92 v93 => (kr v92 v93))
def s_slices_IndexFunc_Span_25 {R : Type} (cp : Nat → Nat → Bool) (n : Nat) (p0 : (List SSpan)) (q0 : Int) (kr : Int → Int → Option R) : Option R :=
  s_slices_IndexFunc_Span_1 cp n p0 q0 (s_slices_IndexFunc_Span_23 cp n p0 q0 (fun v94 v95 => (kr v94 v95)))
def G_slices_IndexFunc_Span {R : Type} (cp : Nat → Nat → Bool) : Nat → (List SSpan) → Int → (Int → Int → Option R) → Option R
  | 0, _, _, _ => none
  | n + 1, p0, q0, k =>
    s_slices_IndexFunc_Span_25 cp n p0 q0 (fun v96 v97 => k v96 v97)
/-! tideway/span.Find -/
def G_span_Find {R : Type} (cp : Nat → Nat → Bool) : Nat → (List SSpan) → Int → (SSpan → Bool → Option R) → Option R
  | 0, _, _, _ => none
  | n + 1, p0, p1, k =>
    G_span_Check cp n p0 (fun r76 => cond (!decide (r76 = 0)) (k (SSpan.mk 0 0) false) (G_slices_IndexFunc_Span cp n p0 p1 (fun r98 r99 => cond (decide (r98 < 0)) (k (SSpan.mk 0 0) false) (cond (decide (0 ≤ r98)) (cond (decide (r98 < (p0.length : Int))) (k (p0.getD (Int.toNat r98) zSpan) true) (none)) (none)))))
/-! tideway/span.Has -/
def G_span_Has {R : Type} (cp : Nat → Nat → Bool) : Nat → (List SSpan) → Int → (Bool → Option R) → Option R
  | 0, _, _, _ => none
  | n + 1, p0, p1, k =>
    G_span_Find cp n p0 p1 (fun r100 r101 => k r101)
/-! tideway/tidewaylaw06.heads -/
def s_law06_heads_1 {R : Type} (cp : Nat → Nat → Bool) (n : Nat) (kn : (List SSpan) → Int → (List SSpan) → Int → Option R) : Option R :=
  G_span_Add cp n [(SSpan.mk 0 2), (SSpan.mk 6 7)] (SSpan.mk 2 4) (fun r52 r53 => G_span_Gaps cp n r52 (SSpan.mk 1 7) (fun r54 => G_span_Add cp n [(SSpan.mk 1 1)] (SSpan.mk 0 0) (fun r55 r56 => kn r52 r53 r54 r56)))
def s_law06_heads_3 {R : Type} (cp : Nat → Nat → Bool) (n : Nat) (v57 : (List SSpan)) (v58 : Int) (v59 : (List SSpan)) (v60 : Int) (kn : Bool → Option R) : Option R :=
  cond (decide (v58 = 0)) (G_ref06_Same cp n v57 [(SSpan.mk 0 4), (SSpan.mk 6 7)] (fun r61 => cond (r61) (G_ref06_Same cp n v59 [(SSpan.mk 4 6)] (fun r62 => cond (r62) (cond (decide (v60 = 60)) (G_span_Size cp n v57 (fun r63 => cond (decide (r63 = 5)) (G_span_Has cp n v57 3 (fun r64 => cond (r64) (G_span_Has cp n v57 4 (fun r65 => kn (!r65))) (kn false))) (kn false))) (kn false)) (kn false))) (kn false))) (kn false)
def s_law06_heads_5 {R : Type} (cp : Nat → Nat → Bool) (n : Nat) (v66 : Bool) (kr : Option R) : Option R :=
  kr
def s_law06_heads_7 {R : Type} (cp : Nat → Nat → Bool) (n : Nat) (v57 : (List SSpan)) (v58 : Int) (v59 : (List SSpan)) (v60 : Int) (kr : Bool → Option R) : Option R :=
  s_law06_heads_3 cp n v57 v58 v59 v60 (fun v66 => s_law06_heads_5 cp n v66 (kr v66))
def s_law06_heads_9 {R : Type} (cp : Nat → Nat → Bool) (n : Nat) (kr : Bool → Option R) : Option R :=
  s_law06_heads_1 cp n (fun v57 v58 v59 v60 => s_law06_heads_7 cp n v57 v58 v59 v60 (fun v67 => (kr v67)))
def G_law06_heads {R : Type} (cp : Nat → Nat → Bool) : Nat → (Bool → Option R) → Option R
  | 0, _ => none
  | n + 1, k =>
    s_law06_heads_9 cp n (fun v68 => k v68)
/-! tideway/tidewaylaw06.SpanOrder -/
def s_law06_SpanOrder_1 {R : Type} (cp : Nat → Nat → Bool) (n : Nat) (p0 : (List SSpan)) (p1 p2 : SSpan) (kn : (List SSpan) → (List SSpan) → Option R) (kr : Bool → Option R) : Option R :=
  G_span_Add cp n p0 p1 (fun r7 r8 => G_span_Add cp n p0 p2 (fun r9 r10 => cond (!decide (r8 = 0)) (G_law06_heads cp n (fun r11 => kr r11)) (cond (!decide (r10 = 0)) (G_law06_heads cp n (fun r12 => kr r12)) (kn r7 r9))))
def s_law06_SpanOrder_4 {R : Type} (cp : Nat → Nat → Bool) (n : Nat) (p1 p2 : SSpan) (v13 v14 : (List SSpan)) (kr : Bool → Option R) : Option R :=
  G_span_Add cp n v13 p2 (fun r16 r17 => G_span_Add cp n v14 p1 (fun r18 r19 => cond (decide (r17 = 0)) (cond (decide (r19 = 0)) (G_ref06_Same cp n r16 r18 (fun r20 => cond (r20) (G_law06_heads cp n (fun r21 => kr r21)) (kr false))) (kr false)) (kr false)))
def s_law06_SpanOrder_7 {R : Type} (cp : Nat → Nat → Bool) (n : Nat) (p0 : (List SSpan)) (p1 p2 : SSpan) (kr : Bool → Option R) : Option R :=
  s_law06_SpanOrder_1 cp n p0 p1 p2 (fun v13 v14 => s_law06_SpanOrder_4 cp n p1 p2 v13 v14 (fun v22 => (kr v22))) (fun v15 => (kr v15))
def G_law06_SpanOrder {R : Type} (cp : Nat → Nat → Bool) : Nat → (List SSpan) → SSpan → SSpan → (Bool → Option R) → Option R
  | 0, _, _, _, _ => none
  | n + 1, p0, p1, p2, k =>
    s_law06_SpanOrder_7 cp n p0 p1 p2 (fun v23 => k v23)
def ca_span_may {R : Type} (cp : Nat → Nat → Bool) (n : Nat) (av : Fr) (cs : List Fr) (k : Ret2 RW → Option R) : Option R := match av, cs with
  | [y0], [] => (dA y0).bind fun c0_ => (dSpan c0_).bind fun p0 => G_span_may cp n p0 (fun r0 => k ⟨(tB r0), [], []⟩)
  | _, _ => none
def ca_span_Check {R : Type} (cp : Nat → Nat → Bool) (n : Nat) (av : Fr) (cs : List Fr) (k : Ret2 RW → Option R) : Option R := match av, cs with
  | [y0], [] => (dRSpan false y0).bind fun p0 => G_span_Check cp n p0 (fun r0 => k ⟨(tL r0), [], []⟩)
  | _, _ => none
def ca_span_right {R : Type} (cp : Nat → Nat → Bool) (n : Nat) (av : Fr) (cs : List Fr) (k : Ret2 RW → Option R) : Option R := match av, cs with
  | [y0, y1], [] => (dRSpan false y0).bind fun p0 => (dA y1).bind fun c1_ => (dSpan c1_).bind fun p1 => G_span_right cp n p0 p1 (fun r0 => k ⟨(tL r0), [], []⟩)
  | _, _ => none
def ca_slices_Clone_Span {R : Type} (cp : Nat → Nat → Bool) (n : Nat) (av : Fr) (cs : List Fr) (k : Ret2 RW → Option R) : Option R := match av, cs with
  | [y0], [] => (dRSpan false y0).bind fun p0 => G_slices_Clone_Span cp n p0 (fun r0 => k ⟨.row true (.rSpan r0), [], []⟩)
  | _, _ => none
def ca_span_Add {R : Type} (cp : Nat → Nat → Bool) (n : Nat) (av : Fr) (cs : List Fr) (k : Ret2 RW → Option R) : Option R := match av, cs with
  | [y0, y1], [] => (dRSpan false y0).bind fun p0 => (dA y1).bind fun c1_ => (dSpan c1_).bind fun p1 => G_span_Add cp n p0 p1 (fun r0 r1 => k ⟨.tup [.row false (.rSpan r0), (tL r1)], [], []⟩)
  | _, _ => none
def ca_span_within {R : Type} (cp : Nat → Nat → Bool) (n : Nat) (av : Fr) (cs : List Fr) (k : Ret2 RW → Option R) : Option R := match av, cs with
  | [y0, y1], [] => (dRSpan false y0).bind fun p0 => (dA y1).bind fun c1_ => (dSpan c1_).bind fun p1 => G_span_within cp n p0 p1 (fun r0 r1 => k ⟨.clo 22 [(6, 0), (8, 0)], [], [[.row false (.rSpan r0)], (eSpan r1)]⟩)
  | _, _ => none
def ca_span_Gaps {R : Type} (cp : Nat → Nat → Bool) (n : Nat) (av : Fr) (cs : List Fr) (k : Ret2 RW → Option R) : Option R := match av, cs with
  | [y0, y1], [] => (dRSpan false y0).bind fun p0 => (dA y1).bind fun c1_ => (dSpan c1_).bind fun p1 => G_span_Gaps cp n p0 p1 (fun r0 => k ⟨.row false (.rSpan r0), [], []⟩)
  | _, _ => none
def ca_ref06_Same {R : Type} (cp : Nat → Nat → Bool) (n : Nat) (av : Fr) (cs : List Fr) (k : Ret2 RW → Option R) : Option R := match av, cs with
  | [y0, y1], [] => (dRSpan false y0).bind fun p0 => (dRSpan false y1).bind fun p1 => G_ref06_Same cp n p0 p1 (fun r0 => k ⟨(tB r0), [], []⟩)
  | _, _ => none
def ca_span_Size {R : Type} (cp : Nat → Nat → Bool) (n : Nat) (av : Fr) (cs : List Fr) (k : Ret2 RW → Option R) : Option R := match av, cs with
  | [y0], [] => (dRSpan false y0).bind fun p0 => G_span_Size cp n p0 (fun r0 => k ⟨(tL r0), [], []⟩)
  | _, _ => none
def ca_span_Find_1 {R : Type} (cp : Nat → Nat → Bool) (n : Nat) (av : Fr) (cs : List Fr) (k : Ret2 RW → Option R) : Option R := match av, cs with
  | [y0, y1], [w0] => (dA y0).bind fun c0_ => (dSpan c0_).bind fun p0 => (dP 14 0 y1).bind fun _ => (dOne w0).bind fun u0 => (dI .i64 u0).bind fun q0 => G_span_Find_1 cp n p0 q0 (fun r0 r1 => k ⟨(tB r0), [[(tL r1)]], []⟩)
  | _, _ => none
def ca_slices_IndexFunc_Span {R : Type} (cp : Nat → Nat → Bool) (n : Nat) (av : Fr) (cs : List Fr) (k : Ret2 RW → Option R) : Option R := match av, cs with
  | [y0, y1], [w0] => (dRSpan false y0).bind fun p0 => (dC 24 [(19, 0)] y1).bind fun _ => (dOne w0).bind fun u0 => (dI .i64 u0).bind fun q0 => G_slices_IndexFunc_Span cp n p0 q0 (fun r0 r1 => k ⟨(tL r0), [[(tL r1)]], []⟩)
  | _, _ => none
def ca_span_Find {R : Type} (cp : Nat → Nat → Bool) (n : Nat) (av : Fr) (cs : List Fr) (k : Ret2 RW → Option R) : Option R := match av, cs with
  | [y0, y1], [] => (dRSpan false y0).bind fun p0 => (dI .i64 y1).bind fun p1 => G_span_Find cp n p0 p1 (fun r0 r1 => k ⟨.tup [.agg (eSpan r0), (tB r1)], [], []⟩)
  | _, _ => none
def ca_span_Has {R : Type} (cp : Nat → Nat → Bool) (n : Nat) (av : Fr) (cs : List Fr) (k : Ret2 RW → Option R) : Option R := match av, cs with
  | [y0, y1], [] => (dRSpan false y0).bind fun p0 => (dI .i64 y1).bind fun p1 => G_span_Has cp n p0 p1 (fun r0 => k ⟨(tB r0), [], []⟩)
  | _, _ => none
def ca_law06_heads {R : Type} (cp : Nat → Nat → Bool) (n : Nat) (av : Fr) (cs : List Fr) (k : Ret2 RW → Option R) : Option R := match av, cs with
  | [], [] => G_law06_heads cp n (fun r0 => k ⟨(tB r0), [], []⟩)
  | _, _ => none
def ca_law06_SpanOrder {R : Type} (cp : Nat → Nat → Bool) (n : Nat) (av : Fr) (cs : List Fr) (k : Ret2 RW → Option R) : Option R := match av, cs with
  | [y0, y1, y2], [] => (dRSpan false y0).bind fun p0 => (dA y1).bind fun c1_ => (dSpan c1_).bind fun p1 => (dA y2).bind fun c2_ => (dSpan c2_).bind fun p2 => G_law06_SpanOrder cp n p0 p1 p2 (fun r0 => k ⟨(tB r0), [], []⟩)
  | _, _ => none
def callP {R : Type} (cp : Nat → Nat → Bool) (n : Nat) (id : Nat) (av : Fr) (cs : List Fr) (k : Ret2 RW → Option R) : Option R := match id with
  | 19 => ca_span_may cp n av cs k
  | 11 => ca_span_Check cp n av cs k
  | 13 => ca_span_right cp n av cs k
  | 14 => ca_slices_Clone_Span cp n av cs k
  | 5 => ca_span_Add cp n av cs k
  | 20 => ca_span_within cp n av cs k
  | 15 => ca_span_Gaps cp n av cs k
  | 7 => ca_ref06_Same cp n av cs k
  | 16 => ca_span_Size cp n av cs k
  | 1014 => ca_span_Find_1 cp n av cs k
  | 1013 => ca_slices_IndexFunc_Span cp n av cs k
  | 21 => ca_span_Find cp n av cs k
  | 17 => ca_span_Has cp n av cs k
  | 6 => ca_law06_heads cp n av cs k
  | 3 => ca_law06_SpanOrder cp n av cs k
  | _ => none
end
end Go.Proofs.Ytapelpfcflgjkaa.M
