/- A small machine over plain values: its values, its code, and what it answers. -/
import Derived.Still
import Derived.Laws.AppendOwn
import Derived.RowKit
import Derived.Laws.BytesArg
set_option linter.unusedVariables false
namespace Go.Proofs.Ytafnmkbehjbkdaa.M
open Go Go.RowKit
noncomputable section
inductive AV where
  | dead
  | sc (v : Value)
  | agg (cs : List AV)
  | tup (vs : List AV)
  | row (app : Bool) (sz n : Nat) (get : Nat → List AV)
  | elt (cs : List AV)
  | ptr (h j : Nat)
  | clo (f : Nat) (caps : List (Nat × Nat))
  | hdr (n : Nat)
  | yld
  | un (k : Option Nat) (sz n : Nat) (get : Nat → List AV)
  | ur (k sz n : Nat)
  | up (k sz q off : Nat)
instance : Inhabited AV := ⟨.dead⟩
def AV.c1 : AV → AV
  | .row _ sz n g => .row false sz n g
  | .un .. => .dead
  | a => a
def AV.c2 : AV → AV
  | .agg cs => .agg (cs.map AV.c1)
  | a => a.c1
def AV.strip : AV → AV
  | .tup vs => .tup (vs.map AV.c2)
  | a => a.c2
def AV.storable : AV → Bool
  | .sc _ | .row .. | .ptr .. | .clo .. => true
  | _ => false
def AV.flat : AV → Bool
  | .sc _ => true
  | .row a _ _ _ => !a
  | _ => false
def AV.cells? : AV → Option (List AV)
  | .agg cs => some cs
  | .sc v => some [.sc v]
  | .row a sz n g => some [.row a sz n g]
  | .ptr h j => some [.ptr h j]
  | .clo f cs => some [.clo f cs]
  | _ => none
def mkv (ag : Bool) (cs : List AV) : AV := match ag with
  | true => .agg cs
  | false => cs.headD .dead
def appGet (n m : Nat) (g g2 : Nat → List AV) : Nat → List AV := fun i => cond (decide (i < n)) (g i) (cond (decide (i < n + m)) (g2 (i - n)) (g i))
def subGet (n' lo n : Nat) (g : Nat → List AV) : Nat → List AV := fun i => cond (decide (i < n')) (g (lo + i)) (g n)
def litGet (sz len : Nat) (zs flat : List AV) : Nat → List AV := fun i => cond (decide (i < len)) ((flat.drop (i * sz)).take sz) zs
inductive IA where
  | s (t : Nat)
  | k (v : AV)
inductive IOp where
  | mv (tk : Bool) (x : IA)
  | pick (c a b : IA)
  | alloc (h : Nat) (zs : List AV)
  | box (h n : Nat) (tk : Bool) (x : IA)
  | load (h j n : Nat) (ag tk : Bool) (a : Nat)
  | loade (n : Nat) (ag : Bool) (a : Nat)
  | store (h j n : Nat) (tk : Bool) (a : Nat) (x : IA)
  | nil (x : IA)
  | bin (op : BinOp) (x y : IA)
  | eqb (neg : Bool) (x y : IA)
  | eqs (ks : List Bool) (neg : Bool) (x y : IA)
  | nilq (neg : Bool) (x : IA)
  | un (op : UnOp) (x : IA)
  | conv (k : IntKind) (x : IA)
  | fld (off : Nat) (x : IA)
  | fieldv (off n : Nat) (ag : Bool) (x : IA)
  | idx (sz : Nat) (x i : IA)
  | slice (sz : Nat) (x : IA) (lo hi mx : Option IA)
  | len (str : Bool) (x : IA)
  | sidx (x i : IA)
  | aidx (n sz : Nat) (ag : Bool) (x i : IA)
  | uapp (sz bytes : Nat) (x y : IA)
  | ualias (x : IA)
  | uidx (sz : Nat) (x i : IA)
  | uload (s n : Nat) (ag : Bool) (a : Nat)
  | ustore (s n : Nat) (a : Nat) (x : IA)
  | ufrz (x : IA)
  | unew (v : AV)
  | cstr (x : IA)
  | eqt (neg : Bool) (x y : IA)
  | ubs (sz len : Nat) (zs : List AV) (parts : List (Nat × Nat × IA))
  | uconv (x : IA)
  | buildl (zs : List AV) (parts : List (Nat × Nat × IA)) (off s : Nat)
  | mnmx (mx : Bool) (xs : List IA)
  | app (sz bytes : Nat) (tk : Bool) (x y : IA)
  | build (zs : List AV) (parts : List (Nat × Nat × IA))
  | bslice (sz len : Nat) (zs : List AV) (parts : List (Nat × Nat × IA))
  | ext (tk : Bool) (i : Nat) (x : IA)
  | mkclo (f : Nat) (caps : List IA)
  | call (id : Nat) (args : List (Bool × IA)) (pass : List (Nat × Nat × Nat)) (exp : List (Nat × Nat × Nat))
  | callv (f : IA) (gf id : Nat) (args : List (Bool × IA)) (pass : List (Nat × Nat × Nat)) (exp : List (Nat × Nat × Nat))
  | ro (id : Nat) (args : List (Bool × IA)) (pass : List (Nat × Nat × Nat))
structure IStep where
  dst : Option Nat
  op : IOp
  guard : Option (Nat × Bool) := none
  split : Bool := false
inductive IC where
  | skip
  | stuck
  | reg (ops : List IStep)
  | seq (a b : IC)
  | cond (c : IA) (a b : IC)
  | blk (id : Nat) (b : IC)
  | loop (b : IC)
  | exit (id : Nat)
  | ret
  | clr (xs : List Nat) (hs : List (Nat × Nat)) (c : IC)
  | fin (c : IC) (xs : List Nat) (hs : List (Nat × Nat))
  | brw (s : Nat) (c : IC)
  | wk (xs : List Nat) (c : IC)
  | plug (sz bytes : Nat)
  | yreg (pre : List IStep) (cal : IA) (args : List IA) (gd : Option (Nat × Bool)) (dst : Nat) (post : List IStep)
  | rfn (x : IA) (gf bs itnt : Nat) (ps : List Nat) (it asg body : IC) (px pb : List Nat)
inductive IRes where
  | slot (t : Nat)
  | cell (a h n : Nat) (ag : Bool)
structure IFn where
  go : Nat
  np : Nat
  nt : Nat
  total : Nat
  lay : List (Nat × Nat)
  pass : List (Nat × Nat) := []
  exp : List (Nat × Nat) := []
  res : List IRes
  body : IC
structure Ret where
  res : AV
  cells : List (List AV)
  exp : List (List AV)
inductive Ex where
  | norm
  | exit (id : Nat)
  | ret
def rng (i : Nat) : Nat → List Nat
  | 0 => []
  | n + 1 => i :: rng (i + 1) n
def exwx (tk : Bool) (x : IA) : List Nat := match tk, x with
  | true, .s t => [t]
  | _, _ => []
def tkS (tk : Bool) (x : IA) : Bool := match x with
  | .s _ => tk
  | .k _ => false
def tkArgs : List (Bool × IA) → List Nat
  | [] => []
  | (tk, x) :: r => exwx tk x ++ tkArgs r
def passCells : List (Nat × Nat × Nat) → List Nat
  | [] => []
  | (h, n, _) :: r => rng (h + 1) n ++ passCells r
def passAll : List (Nat × Nat × Nat) → List IA
  | [] => []
  | (h, n, _) :: r => (rng h (n + 1)).map .s ++ passAll r
def expAll : List (Nat × Nat × Nat) → List Nat
  | [] => []
  | (_, n, h) :: r => rng h (n + 1) ++ expAll r
def expHds : List (Nat × Nat × Nat) → List IA
  | [] => []
  | (_, _, h) :: r => .s h :: expHds r
def IOp.opds : IOp → List IA
  | .mv _ x | .nil x | .nilq _ x | .un _ x | .conv _ x | .fld _ x | .fieldv _ _ _ x | .len _ x | .ext _ _ x | .ualias x | .ufrz x | .cstr x | .uconv x => [x]
  | .uload s _ _ a => [.s a, .s s]
  | .ustore s _ a x => [.s a, .s s, x]
  | .unew _ => []
  | .pick c a b => [c, a, b]
  | .alloc h _ => [.s h]
  | .box h _ _ x => [.s h, x]
  | .load h j n _ _ a => .s a :: .s h :: (rng (h + 1 + j) n).map .s
  | .loade _ _ a => [.s a]
  | .store h _ _ _ a x => [.s a, .s h, x]
  | .bin _ x y | .eqb _ x y | .eqs _ _ x y | .idx _ x y | .sidx x y | .aidx _ _ _ x y | .app _ _ _ x y | .uapp _ _ x y | .uidx _ x y | .eqt _ x y => [x, y]
  | .slice _ x lo hi mx => x :: (lo.toList ++ hi.toList ++ mx.toList)
  | .mnmx _ xs | .mkclo _ xs => xs
  | .build _ ps | .bslice _ _ _ ps | .ubs _ _ _ ps | .buildl _ ps _ _ => ps.map (·.2.2)
  | .call _ args pass exp => args.map (·.2) ++ expHds exp ++ passAll pass
  | .callv f _ _ args pass exp => f :: args.map (·.2) ++ expHds exp ++ passAll pass
  | .ro _ args pass => args.map (·.2) ++ expHds [] ++ passAll pass
def IOp.exw : IOp → List Nat
  | .mv tk x | .ext tk _ x | .app _ _ tk x _ => exwx tk x
  | .uapp _ _ x _ | .ufrz x | .uconv x => exwx true x
  | .ustore s _ _ _ | .buildl _ _ _ s => [s]
  | .alloc h zs => rng h (zs.length + 1)
  | .box h n tk x => rng h (n + 1) ++ exwx tk x
  | .load h j n _ tk _ => cond tk (rng (h + 1 + j) n) []
  | .store h j n tk _ x => rng (h + 1 + j) n ++ exwx tk x
  | .call _ args pass exp | .callv _ _ _ args pass exp => tkArgs args ++ passCells pass ++ expAll exp
  | .ro _ args _ => tkArgs args
  | _ => []
def IOp.det : IOp → Bool
  | .nilq .. => false
  | _ => true
def w64 : Int → Int
  | .ofNat m => bif Nat.ble m 9223372036854775807 then .ofNat m else wrap64 (.ofNat m)
  | .negSucc m => bif Nat.ble m 9223372036854775807 then .negSucc m else wrap64 (.negSucc m)
theorem w64_eq (n : Int) : w64 n = wrap64 n := by
  cases n with
  | ofNat m =>
    rw [show w64 (.ofNat m) = bif Nat.ble m 9223372036854775807 then .ofNat m else wrap64 (.ofNat m) from rfl]
    rcases Bool.eq_false_or_eq_true (Nat.ble m 9223372036854775807) with h | h <;> rw [h]
    · have := Nat.le_of_ble_eq_true h
      rw [cond_true]; unfold wrap64; simp only [Int.ofNat_eq_natCast]; omega
    · rw [cond_false]
  | negSucc m =>
    rw [show w64 (.negSucc m) = bif Nat.ble m 9223372036854775807 then .negSucc m else wrap64 (.negSucc m) from rfl]
    rcases Bool.eq_false_or_eq_true (Nat.ble m 9223372036854775807) with h | h <;> rw [h]
    · have := Nat.le_of_ble_eq_true h
      rw [cond_true]; unfold wrap64; omega
    · rw [cond_false]
def wr : IntKind → Int → Int
  | .i64, n => w64 n
  | .u8, n => n % 256
  | .u32, n => n % 4294967296
  | k, n => k.wrap n
def mx (x y : Int) : Int := if y > x then y else x
def mn (x y : Int) : Int := if y < x then y else x
def shl (k : IntKind) (x y : Int) : Int := k.wrap (x * 2 ^ (min y.toNat k.bits))
def shr (k : IntKind) (x y : Int) : Int := x.fdiv (2 ^ (min y.toNat k.bits))
def capB (n b : Nat) : Bool := @decide (n * b ≤ 140737488355328) (Classical.propDecidable _)
def capD (n b : Nat) : Bool := Nat.ble (n * b) 140737488355328
theorem capB_iff {n b : Nat} : capB n b = true ↔ n * b ≤ 140737488355328 := by unfold capB; exact @decide_eq_true_iff _ (Classical.propDecidable _)
theorem capB_eq : capB = capD := by
  funext n b
  apply Bool.eq_iff_iff.2
  rw [capB_iff]; unfold capD; rw [Nat.ble_eq]
section
variable {R : Type}
def ibin (op : BinOp) (x y : AV) (k : AV → Option R) : Option R :=
  match x, y with
  | .sc (.int ka a), .sc (.int kb b) =>
    match op with
    | .shl => cond (decide (b < 0)) none (k (.sc (.int ka (shl ka a b))))
    | .shr => cond (decide (b < 0)) none (k (.sc (.int ka (shr ka a b))))
    | op => cond (decide (ka = kb)) (match op with
      | .add => k (.sc (.int ka (wr ka (a + b))))
      | .sub => k (.sc (.int ka (wr ka (a - b))))
      | .mul => k (.sc (.int ka (wr ka (a * b))))
      | .quo => cond (decide (b = 0)) none (k (.sc (.int ka (wr ka (a.tdiv b)))))
      | .rem => cond (decide (b = 0)) none (k (.sc (.int ka (a.tmod b))))
      | .eql => k (.sc (.bool (decide (a = b))))
      | .neq => k (.sc (.bool (!decide (a = b))))
      | .lss => k (.sc (.bool (decide (a < b))))
      | .leq => k (.sc (.bool (decide (a ≤ b))))
      | .gtr => k (.sc (.bool (decide (b < a))))
      | .geq => k (.sc (.bool (decide (b ≤ a))))
      | .and => k (.sc (.int ka (bits .and ka a b)))
      | .or => k (.sc (.int ka (bits .or ka a b)))
      | .xor => k (.sc (.int ka (bits .xor ka a b)))
      | .andNot => k (.sc (.int ka (bits .andNot ka a b)))
      | _ => none) none
  | _, _ => none
def eqbK (neg : Bool) (x y : AV) (k : AV → Option R) : Option R :=
  match x, y with
  | .sc (.bool a), .sc (.bool b) => k (.sc (.bool (cond neg (!(a == b)) (a == b))))
  | _, _ => none
def eqC : List Bool → List AV → List AV → (Bool → Option R) → Option R
  | [], [], [], k => k true
  | true :: ks, .sc (.int ka a) :: xs, .sc (.int kb b) :: ys, k => cond (decide (ka = kb)) (eqC ks xs ys fun r => k (decide (a = b) && r)) none
  | false :: ks, .sc (.bool a) :: xs, .sc (.bool b) :: ys, k => eqC ks xs ys fun r => k ((a == b) && r)
  | _, _, _, _ => none
def eqsK (ks : List Bool) (neg : Bool) (x y : AV) (k : AV → Option R) : Option R :=
  match x, y with
  | .agg xs, .agg ys => eqC ks xs ys fun r => k (.sc (.bool (cond neg (!r) r)))
  | _, _ => none
def both (x y : Option R) : Option R := @ite _ (x = y) (Classical.propDecidable _) x none
def nilqK (neg : Bool) (v : AV) (k : AV → Option R) : Option R := match v with
  | .row _ _ n _ => cond (decide (0 < n)) (k (.sc (.bool neg))) (both (k (.sc (.bool true))) (k (.sc (.bool false))))
  | _ => none
def iun (op : UnOp) (x : AV) (k : AV → Option R) : Option R :=
  match op, x with
  | .not, .sc (.bool b) => k (.sc (.bool (!b)))
  | .neg, .sc (.int ka a) => k (.sc (.int ka (wr ka (0 - a))))
  | _, _ => none
def atIA (x : IA) (a b : Option R) : Option R := match x with
  | .s _ => a
  | .k _ => b
def outx (tk : Bool) (x : IA) (v : AV) (k : AV → List AV → Option R) : Option R := match x with
  | .s _ => cond tk (k v [v.strip]) (k v.strip [])
  | .k _ => k v []
def splice (l : List AV) (off : Nat) (cs : List AV) : List AV := l.take off ++ (cs ++ l.drop (off + cs.length))
def overlay : List AV → List (Nat × Nat × IA) → List AV → Option (List AV)
  | l, [], [] => some l
  | l, (off, n, _) :: ps, v :: vs => match v.cells? with
    | some cs => cond (Nat.beq cs.length n && Nat.ble (off + n) l.length && cs.all AV.storable) (overlay (splice l off (cs.map AV.c1)) ps vs) none
    | none => none
  | _, _, _ => none
def foldMM (m : Bool) (ka : IntKind) : Int → List AV → (Int → Option R) → Option R
  | x, [], k => k x
  | x, .sc (.int kb y) :: r, k => cond (decide (ka = kb)) (foldMM m ka (match m with | true => mx x y | false => mn x y) r k) none
  | _, _ :: _, _ => none
def look (m : List (Nat × Nat)) (h : Nat) : Option Nat := match m with
  | [] => none
  | (a, b) :: r => cond (Nat.beq a h) (some b) (look r h)
def trCaps (m : List (Nat × Nat)) : List (Nat × Nat) → Option (List (Nat × Nat))
  | [] => some []
  | (h, j) :: r => match look m h, trCaps m r with
    | some h', some r' => some ((h', j) :: r')
    | _, _ => none
def tr1 (m : List (Nat × Nat)) : AV → Option AV
  | .ptr h j => match look m h with
    | some h' => some (.ptr h' j)
    | none => none
  | .clo f caps => match trCaps m caps with
    | some caps' => some (.clo f caps')
    | none => none
  | .dead => some .dead
  | .sc v => some (.sc v)
  | .row a sz n g => some (.row a sz n g)
  | .un none sz n g => some (.un none sz n g)
  | _ => none
def trL (m : List (Nat × Nat)) : List AV → Option (List AV)
  | [] => some []
  | a :: r => match tr1 m a, trL m r with
    | some a', some r' => some (a' :: r')
    | _, _ => none
def tr2 (m : List (Nat × Nat)) : AV → Option AV
  | .agg cs => match trL m cs with
    | some cs' => some (.agg cs')
    | none => none
  | a => tr1 m a
def trL2 (m : List (Nat × Nat)) : List AV → Option (List AV)
  | [] => some []
  | a :: r => match tr2 m a, trL2 m r with
    | some a', some r' => some (a' :: r')
    | _, _ => none
def tr3 (m : List (Nat × Nat)) : AV → Option AV
  | .tup vs => match trL2 m vs with
    | some vs' => some (.tup vs')
    | none => none
  | a => tr2 m a
def trLL (m : List (Nat × Nat)) : List (List AV) → Option (List (List AV))
  | [] => some []
  | a :: r => match trL m a, trLL m r with
    | some a', some r' => some (a' :: r')
    | _, _ => none
def fwd (pass : List (Nat × Nat × Nat)) : List (Nat × Nat) := pass.map fun x => (x.1, x.2.2)
def bwd (pass exp : List (Nat × Nat × Nat)) : List (Nat × Nat) := pass.map (fun x => (x.2.2, x.1)) ++ exp.map (fun x => (x.1, x.2.2))
def kpA (tk : Bool) (x : IA) (v : AV) : AV := match tk, x with
  | true, .k _ => v
  | _, _ => v.strip
def argVals : List (Bool × IA) → List AV → Option (List AV × List AV × List AV)
  | [], vs => some ([], [], vs)
  | (tk, x) :: r, v :: vs => match argVals r vs with
    | some (as, ls, rest) => cond (tkS tk x) (some (v :: as, v.strip :: ls, rest)) (some (kpA tk x v :: as, ls, rest))
    | none => none
  | _ :: _, [] => none
def expDead : List (Nat × Nat × Nat) → List AV → Option (List AV)
  | [], vs => some vs
  | _ :: r, .dead :: vs => expDead r vs
  | _, _ => none
def passVals : List (Nat × Nat × Nat) → List AV → Option (List (List AV))
  | [], [] => some []
  | (_, n, _) :: r, .hdr n' :: vs => cond (Nat.beq n n' && Nat.ble n vs.length) (match passVals r (vs.drop n) with
    | some l => some (vs.take n :: l)
    | none => none) none
  | _, _ => none
def okLens : List Nat → List (List AV) → Bool
  | [], [] => true
  | n :: ns, l :: ls => Nat.beq l.length n && okLens ns ls
  | _, _ => false
def expOut : List (Nat × Nat × Nat) → List (List AV) → List AV
  | (_, n, _) :: r, l :: ls => .hdr n :: (l ++ expOut r ls)
  | _, _ => []
def callK (call : Nat → List AV → List (List AV) → Option Ret) (id : Nat) (args : List (Bool × IA)) (pass exp : List (Nat × Nat × Nat)) (more : List AV) (vals : List AV) (k : AV → List AV → Option R) : Option R :=
  match argVals args vals with
  | none => none
  | some (as, ls, vs) => match expDead exp vs with
    | none => none
    | some vs2 => match passVals pass vs2 with
      | none => none
      | some cells => match trL2 (fwd pass) (as ++ more), trLL (fwd pass) cells with
        | some as', some cells' => (call id as' cells').bind fun r =>
          match tr3 (bwd pass exp) r.res, trLL (bwd pass exp) r.cells, trLL (bwd pass exp) r.exp with
          | some v, some cs, some es => cond (okLens (pass.map (·.2.1)) cs && okLens (exp.map (·.2.1)) es) (k v (ls ++ (cs.flatten ++ expOut exp es))) none
          | _, _, _ => none
        | _, _ => none
def sliceK (sz : Nat) (v : AV) (lo hi mx : Option Int) (k : AV → Option R) : Option R :=
  match v with
  | .row _ sz' n g => cond (Nat.beq sz sz') (
    match lo, hi, mx with
    | none, none, none => k (.row false sz n g)
    | some l, none, none => cond (decide (0 ≤ l)) (cond (decide (l ≤ (n : Int))) (k (.row false sz (n - l.toNat) (subGet (n - l.toNat) l.toNat n g))) none) none
    | none, some h, none => cond (decide (0 ≤ h)) (cond (decide (h ≤ (n : Int))) (k (.row false sz h.toNat (subGet h.toNat 0 n g))) none) none
    | some l, some h, none => cond (decide (0 ≤ l)) (cond (decide (l ≤ h)) (cond (decide (h ≤ (n : Int))) (k (.row false sz (h.toNat - l.toNat) (subGet (h.toNat - l.toNat) l.toNat n g))) none) none) none
    | none, some h, some m => cond (decide (0 ≤ h)) (cond (decide (h ≤ (n : Int))) (cond (decide (m = h)) (k (.row true sz h.toNat (subGet h.toNat 0 n g))) none) none) none
    | some l, some h, some m => cond (decide (0 ≤ l)) (cond (decide (l ≤ h)) (cond (decide (h ≤ (n : Int))) (cond (decide (m = h)) (k (.row true sz (h.toNat - l.toNat) (subGet (h.toNat - l.toNat) l.toNat n g))) none) none) none) none
    | _, none, some _ => none) none
  | _ => none
def optI : Option IA → List AV → (Option Int → List AV → Option R) → Option R
  | none, vs, k => k none vs
  | some _, .sc (.int _ i) :: vs, k => k (some i) vs
  | _, _, _ => none
def ptrs : List AV → Option (List (Nat × Nat))
  | [] => some []
  | .ptr h j :: r => match ptrs r with
    | some cs => some ((h, j) :: cs)
    | none => none
  | _ :: _ => none
def nilK (v : AV) (k : AV → Option R) : Option R := match v with
  | .ptr h j => k (.ptr h j)
  | .elt cs => k (.elt cs)
  | .clo f cs => k (.clo f cs)
  | _ => none
def fldK (off : Nat) (v : AV) (k : AV → Option R) : Option R := match v with
  | .ptr h j => k (.ptr h (j + off))
  | .elt cs => cond (Nat.ble off cs.length) (k (.elt (cs.drop off))) none
  | .up q sz i o => k (.up q sz i (o + off))
  | _ => none
def lenK (str : Bool) (v : AV) (k : AV → Option R) : Option R := match v with
  | .row _ _ n _ => cond str none (k (.sc (.int .i64 (n : Int))))
  | .ur _ _ n => cond str none (k (.sc (.int .i64 (n : Int))))
  | .sc (.string s) => cond str (k (.sc (.int .i64 (s.size : Int)))) none
  | _ => none
def sidxK (v i : AV) (k : AV → Option R) : Option R := match v with
  | .sc (.string s) => match i with
    | .sc (.int _ i) => cond (decide (0 ≤ i)) (cond (decide (i < (s.size : Int))) (k (.sc (.int .u8 ((s.data.getD i.toNat 0).toNat : Int)))) none) none
    | _ => none
  | _ => none
def selK (i : Int) : Nat → Nat → (Nat → Option R) → Option R
  | 0, _, _ => none
  | n + 1, j, k => cond (decide (i = (j : Int))) (k j) (selK i n (j + 1) k)
def aidxK (n sz : Nat) (ag : Bool) (v i : AV) (k : AV → Option R) : Option R := match v with
  | .agg cs => match i with
    | .sc (.int _ i) => cond (Nat.ble (n * sz) cs.length) (selK i n 0 fun j => k (mkv ag (((cs.drop (j * sz)).take sz).map AV.c1))) none
    | _ => none
  | _ => none
def uappK (sz bytes : Nat) (x : IA) (v w : AV) (k : AV → List AV → Option R) : Option R := match w with
  | .row _ sz2 m g2 => match v with
    | .un none sz1 n g => cond (Nat.beq sz sz1 && Nat.beq sz sz2) (cond (capB (n + m) bytes) (atIA x (k (.un none sz (n + m) (appGet n m g g2)) [.dead]) none) none) none
    | .row true sz1 0 g => cond (Nat.beq sz sz1 && Nat.beq sz sz2) (cond (capB (0 + m) bytes) (atIA x (k (.un none sz (0 + m) (appGet 0 m g g2)) [.dead]) none) none) none
    | _ => none
  | _ => none
def ualiasK (v : AV) (k : AV → Option R) : Option R := match v with
  | .un (some s) sz n _ => k (.ur s sz n)
  | _ => none
def uidxK (sz : Nat) (v i : AV) (k : AV → Option R) : Option R := match v with
  | .ur s sz' n => match i with
    | .sc (.int _ i) => cond (Nat.beq sz sz') (cond (decide (0 ≤ i)) (cond (decide (i < (n : Int))) (k (.up s sz i.toNat 0)) none) none) none
    | _ => none
  | _ => none
def uloadK (s n : Nat) (ag : Bool) (a u : AV) (k : AV → Option R) : Option R := match a with
  | .up s1 sz q off => match u with
    | .un (some s2) sz' m g => cond (Nat.beq s s1 && Nat.beq s s2 && Nat.beq sz sz' && Nat.ble (off + n) sz) (cond (decide (q < m)) (k (mkv ag (((g q).drop off).take n))) none) none
    | _ => none
  | _ => none
def setGet (q off : Nat) (cs : List AV) (g : Nat → List AV) : Nat → List AV := fun i => cond (decide (i = q)) (splice (g i) off cs) (g i)
def ustoreK (s n : Nat) (a u v : AV) (k : AV → List AV → Option R) : Option R := match a with
  | .up s1 sz q off => match u with
    | .un (some s2) sz' m g => match v.cells? with
      | some cs => cond (Nat.beq s s1 && Nat.beq s s2 && Nat.beq sz sz' && Nat.ble (off + n) sz && Nat.beq cs.length n && (cs.map AV.c1).all AV.flat) (cond (decide (q < m)) (k .dead [.un (some s) sz m (setGet q off (cs.map AV.c1) g)]) none) none
      | none => none
    | _ => none
  | _ => none
def bytesL (g : Nat → List AV) : Nat → Nat → Option (List Int)
  | _, 0 => some []
  | i, n + 1 => match g i with
    | [.sc (.int .u8 b)] => match bytesL g (i + 1) n with
      | some r => some (b :: r)
      | none => none
    | _ => none
def strK (v : AV) (k : AV → Option R) : Option R := match v with
  | .row _ sz n g => cond (Nat.beq sz 1) (match bytesL g 0 n with
    | some l => k (.sc (.string (strOfNums l)))
    | none => none) none
  | _ => none
def eqtK (neg : Bool) (x y : AV) (k : AV → Option R) : Option R :=
  match x, y with
  | .sc (.string a), .sc (.string b) => k (.sc (.bool (cond neg (!(a.data.toList == b.data.toList)) (a.data.toList == b.data.toList))))
  | _, _ => none
def ubsK (sz len : Nat) (zs : List AV) (ps : List (Nat × Nat × IA)) (vs : List AV) (k : AV → Option R) : Option R := match overlay (List.replicate len zs).flatten ps vs with
  | some cs => cond (cs.all AV.flat && Nat.ble 1 len) (k (.un none sz len (litGet sz len zs cs))) none
  | none => none
def noLv : AV → Bool
  | .row a _ _ _ => !a
  | .un .. => false
  | _ => true
def lastIs (ps : List (Nat × Nat × IA)) (off s : Nat) : Bool := match ps with
  | [] => false
  | [(o, n, .s t)] => Nat.beq o off && Nat.beq n 1 && Nat.beq t s
  | [_] => false
  | _ :: y :: r => lastIs (y :: r) off s
def lastA : List AV → AV
  | [] => .dead
  | [a] => a
  | _ :: b :: r => lastA (b :: r)
def buildlK (zs : List AV) (ps : List (Nat × Nat × IA)) (off : Nat) (vs : List AV) (k : AV → List AV → Option R) : Option R := match overlay zs ps vs with
  | some cs => match lastA vs with
    | .row true sz n g => cond (Nat.blt off cs.length && (cs.set off .dead).all noLv) (k (.agg (cs.set off (.row true sz n g))) [.row false sz n g]) none
    | _ => none
  | none => none
def uconvK (x : IA) (v : AV) (k : AV → List AV → Option R) : Option R := match v with
  | .un none sz n g => cond (Nat.ble 1 n) (atIA x (k (.row false sz n g) [.dead]) none) none
  | _ => none
def unewK (v : AV) (k : AV → Option R) : Option R := match v with
  | .un none sz 0 g => k (.un none sz 0 g)
  | _ => none
def ufrzK (x : IA) (v : AV) (k : AV → List AV → Option R) : Option R := match v with
  | .un none sz n g => atIA x (k (.row true sz n g) [.dead]) none
  | _ => none
def insGet (n i : Nat) (g g2 : Nat → List AV) : Nat → List AV := fun j => cond (decide (j < i)) (g j) (cond (decide (j = i)) (g2 0) (cond (decide (j < n + 1)) (g (j - 1)) (g j)))
def pickK (c a b : AV) (k : AV → List AV → Option R) : Option R := match c with
  | .sc (.bool t) => cond t (k a.strip []) (k b.strip [])
  | _ => none
def allocK (h : Nat) (zs : List AV) (hd : AV) (k : AV → List AV → Option R) : Option R := match hd with
  | .dead => k (.ptr h 0) (.hdr zs.length :: zs)
  | _ => none
def boxK (h n : Nat) (tk : Bool) (x : IA) (hd v : AV) (k : AV → List AV → Option R) : Option R := match hd with
  | .dead => match v.cells? with
    | some cs => cond (Nat.beq cs.length n && cs.all AV.storable) (atIA x (cond tk (k (.ptr h 0) (.hdr n :: (cs ++ [v.strip]))) (k (.ptr h 0) (.hdr n :: cs.map AV.c1))) (k (.ptr h 0) (.hdr n :: cs))) none
    | none => none
  | _ => none
def loadK (h j n : Nat) (ag tk : Bool) (a hd : AV) (cs : List AV) (k : AV → List AV → Option R) : Option R := match a with
  | .ptr h' j' => match hd with
    | .hdr m => cond (Nat.beq h h' && Nat.beq j j' && Nat.ble (j + n) m) (cond tk (k (mkv ag cs) (cs.map AV.c1)) (k (mkv ag (cs.map AV.c1)) [])) none
    | _ => none
  | _ => none
def loadeK (n : Nat) (ag : Bool) (a : AV) (k : AV → List AV → Option R) : Option R := match a with
  | .elt cs => cond (Nat.ble n cs.length) (k (mkv ag (cs.take n)) []) none
  | _ => none
def storeK (h j n : Nat) (tk : Bool) (x : IA) (a hd v : AV) (k : AV → List AV → Option R) : Option R := match a with
  | .ptr h' j' => match hd with
    | .hdr m => match v.cells? with
      | some cs => cond (Nat.beq h h' && Nat.beq j j' && Nat.ble (j + n) m && Nat.beq cs.length n && cs.all AV.storable) (atIA x (cond tk (k .dead (cs ++ [v.strip])) (k .dead (cs.map AV.c1))) (k .dead cs)) none
      | none => none
    | _ => none
  | _ => none
def convK (kd : IntKind) (v : AV) (k : AV → Option R) : Option R := match v with
  | .sc (.int _ n) => k (.sc (.int kd (wr kd n)))
  | _ => none
def fieldvK (off n : Nat) (ag : Bool) (v : AV) (k : AV → Option R) : Option R := match v with
  | .agg cs => cond (Nat.ble (off + n) cs.length) (k (mkv ag (((cs.drop off).take n).map AV.c1))) none
  | _ => none
def idxK (sz : Nat) (v i : AV) (k : AV → Option R) : Option R := match v with
  | .row _ sz' n g => match i with
    | .sc (.int _ i) => cond (Nat.beq sz sz') (cond (decide (0 ≤ i)) (cond (decide (i < (n : Int))) (k (.elt (g i.toNat))) none) none) none
    | _ => none
  | _ => none
def mnmxK (m : Bool) (vs : List AV) (k : AV → Option R) : Option R := match vs with
  | .sc (.int ka x) :: r => foldMM m ka x r fun v => k (.sc (.int ka v))
  | _ => none
def appK (sz bytes : Nat) (tk : Bool) (x : IA) (v w : AV) (k : AV → List AV → Option R) : Option R := match v with
  | .row a sz1 n g => match w with
    | .row _ sz2 m g2 => cond (a && Nat.beq sz sz1 && Nat.beq sz sz2) (cond (capB (n + m) bytes)
      (cond (tkS tk x) (k (.row true sz (n + m) (appGet n m g g2)) [.row false sz n g]) (k (.row true sz (n + m) (appGet n m g g2)) [])) none) none
    | _ => none
  | _ => none
def buildK (zs : List AV) (ps : List (Nat × Nat × IA)) (vs : List AV) (k : AV → Option R) : Option R := match overlay zs ps vs with
  | some cs => k (.agg cs)
  | none => none
def bsliceK (sz len : Nat) (zs : List AV) (ps : List (Nat × Nat × IA)) (vs : List AV) (k : AV → Option R) : Option R := match overlay (List.replicate len zs).flatten ps vs with
  | some cs => cond (cs.all AV.flat) (k (.row true sz len (litGet sz len zs cs))) none
  | none => none
def extK (tk : Bool) (i : Nat) (x : IA) (v : AV) (k : AV → List AV → Option R) : Option R := match v with
  | .tup vs => match vs[i]? with
    | some v => cond (tkS tk x) (k v [.tup (vs.set i v.strip)]) (k v.strip [])
    | none => none
  | _ => none
def mkcloK (f : Nat) (vs : List AV) (k : AV → Option R) : Option R := match ptrs vs with
  | some caps => k (.clo f caps)
  | none => none
def callvK (call : Nat → List AV → List (List AV) → Option Ret) (gf id : Nat) (args : List (Bool × IA)) (pass exp : List (Nat × Nat × Nat)) (v : AV) (vs : List AV) (k : AV → List AV → Option R) : Option R := match v with
  | .clo f caps => cond (Nat.beq f gf) (callK call id args pass exp (caps.map fun x => .ptr x.1 x.2) vs k) none
  | _ => none
def oldCells : List (Nat × Nat × Nat) → List AV → List AV
  | [], _ => []
  | (_, n, _) :: r, _ :: vs => vs.take n ++ oldCells r (vs.drop n)
  | _ :: _, [] => []
def plainA : AV → Bool
  | .sc _ | .row .. => true
  | _ => false
def roC (call : Nat → List AV → List (List AV) → Option Ret) (id : Nat) (args : List (Bool × IA)) (pass : List (Nat × Nat × Nat)) (vs : List AV) (k : AV → List AV → Option R) : Option R :=
  cond ((oldCells pass (vs.drop args.length)).all plainA) (callK call id args pass [] [] vs fun v ex => k v (ex.take (tkArgs args).length)) none
def comp (call : Nat → List AV → List (List AV) → Option Ret) : IOp → List AV → (AV → List AV → Option R) → Option R
  | .mv tk x, [v], k => outx tk x v k
  | .pick _ _ _, [c, a, b], k => pickK c a b k
  | .alloc h zs, [hd], k => allocK h zs hd k
  | .box h n tk x, [hd, v], k => boxK h n tk x hd v k
  | .load h j n ag tk _, a :: hd :: cs, k => loadK h j n ag tk a hd cs k
  | .loade n ag _, [a], k => loadeK n ag a k
  | .store h j n tk _ x, [a, hd, v], k => storeK h j n tk x a hd v k
  | .nil _, [v], k => nilK v fun v => k v []
  | .bin op _ _, [x, y], k => ibin op x y fun v => k v []
  | .eqb neg _ _, [x, y], k => eqbK neg x y fun v => k v []
  | .eqs ks neg _ _, [x, y], k => eqsK ks neg x y fun v => k v []
  | .nilq neg _, [v], k => nilqK neg v fun v => k v []
  | .un op _, [x], k => iun op x fun v => k v []
  | .conv kd _, [v], k => convK kd v fun v => k v []
  | .fld off _, [v], k => fldK off v fun v => k v []
  | .fieldv off n ag _, [v], k => fieldvK off n ag v fun v => k v []
  | .idx sz _ _, [v, i], k => idxK sz v i fun v => k v []
  | .slice sz _ lo hi mx, v :: vs, k => optI lo vs fun l vs => optI hi vs fun h vs => optI mx vs fun m _ => sliceK sz v l h m fun v => k v []
  | .len str _, [v], k => lenK str v fun v => k v []
  | .sidx _ _, [v, i], k => sidxK v i fun v => k v []
  | .aidx n sz ag _ _, [v, i], k => aidxK n sz ag v i fun v => k v []
  | .uapp sz bytes x _, [v, w], k => uappK sz bytes x v w k
  | .ualias _, [v], k => ualiasK v fun v => k v []
  | .uidx sz _ _, [v, i], k => uidxK sz v i fun v => k v []
  | .uload s n ag _, [a, u], k => uloadK s n ag a u fun v => k v []
  | .ustore s n _ _, [a, u, v], k => ustoreK s n a u v k
  | .ufrz x, [v], k => ufrzK x v k
  | .unew v, [], k => unewK v fun v => k v []
  | .cstr _, [v], k => strK v fun v => k v []
  | .eqt neg _ _, [x, y], k => eqtK neg x y fun v => k v []
  | .ubs sz len zs ps, vs, k => ubsK sz len zs ps vs fun v => k v []
  | .uconv x, [v], k => uconvK x v k
  | .buildl zs ps off _, vs, k => buildlK zs ps off vs k
  | .mnmx m _, vs, k => mnmxK m vs fun v => k v []
  | .app sz bytes tk x _, [v, w], k => appK sz bytes tk x v w k
  | .build zs ps, vs, k => buildK zs ps vs fun v => k v []
  | .bslice sz len zs ps, vs, k => bsliceK sz len zs ps vs fun v => k v []
  | .ext tk i x, [v], k => extK tk i x v k
  | .mkclo f _, vs, k => mkcloK f vs fun v => k v []
  | .call id args pass exp, vs, k => callK call id args pass exp [] vs k
  | .callv _ gf id args pass exp, v :: vs, k => callvK call gf id args pass exp v vs k
  | .ro id args pass, vs, k => roC call id args pass vs k
  | _, _, _ => none
def rd (l : List AV) : IA → AV
  | .s t => l.getD t .dead
  | .k v => v
def setMany : List AV → List Nat → List AV → List AV
  | l, i :: is, v :: vs => setMany (l.set i v) is vs
  | l, _, _ => l
def setO (l : List AV) : Option Nat → AV → List AV
  | some d, v => l.set d v
  | none, _ => l
def step (call : Nat → List AV → List (List AV) → Option Ret) (o : IStep) (l : List AV) (k : List AV → Option R) : Option R :=
  let run : Unit → Option R := fun _ => comp call o.op (o.op.opds.map (rd l)) fun v ex =>
    cond (Nat.beq ex.length o.op.exw.length) (match o.split with
    | true => match v with
      | .sc (.bool b) => cond b (k (setO (setMany l o.op.exw ex) o.dst (.sc (.bool true)))) (k (setO (setMany l o.op.exw ex) o.dst (.sc (.bool false))))
      | _ => none
    | false => k (setO (setMany l o.op.exw ex) o.dst v)) none
  match o.guard with
  | none => run ()
  | some (g, want) => match l.getD g .dead with
    | .sc (.bool b) => cond b (match want with
      | true => run ()
      | false => k (setO l o.dst (.tup []))) (match want with
      | true => k (setO l o.dst (.tup []))
      | false => run ())
    | .tup [] => k (setO l o.dst (.tup []))
    | _ => none
def steps (call : Nat → List AV → List (List AV) → Option Ret) : List IStep → List AV → (List AV → Option R) → Option R
  | [], l, k => k l
  | o :: os, l, k => step call o l fun l' => steps call os l' k
def noptr (hs : List (Nat × Nat)) : AV → Bool
  | .ptr h _ => hs.all fun x => !Nat.beq x.1 h
  | .clo _ cs => cs.all fun c => hs.all fun x => !Nat.beq x.1 c.1
  | .ur h _ _ | .up h _ _ _ | .un (some h) _ _ _ => hs.all fun x => !Nat.beq x.1 h
  | .agg l => l.all fun a => match a with
    | .ptr h _ => hs.all fun x => !Nat.beq x.1 h
    | .clo _ cs => cs.all fun c => hs.all fun x => !Nat.beq x.1 c.1
    | .ur h _ _ | .up h _ _ _ | .un (some h) _ _ _ => hs.all fun x => !Nat.beq x.1 h
    | .agg _ | .tup _ => false
    | _ => true
  | .tup [] => true
  | .tup _ => false
  | _ => true
def kill : List AV → List (Nat × Nat) → List AV
  | l, [] => l
  | l, (h, n) :: r => kill (setMany l (rng h (n + 1)) (List.replicate (n + 1) .dead)) r
def clear (xs : List Nat) (hs : List (Nat × Nat)) (l : List AV) : Option (List AV) :=
  match hs with
  | [] => some (setMany l xs (List.replicate xs.length .dead))
  | hs => match kill (setMany l xs (List.replicate xs.length .dead)) hs with
    | l2 => cond (l2.all (noptr hs)) (some l2) none
def loopN (f : List AV → (Ex → List AV → Option R) → Option R) : Nat → List AV → (Ex → List AV → Option R) → Option R
  | 0, _, _ => none
  | m + 1, l, k => f l fun e l' => match e with
    | .norm => loopN f m l' k
    | e => k e l'
def weaken : List Nat → List AV → List AV
  | [], l => l
  | x :: xs, l => weaken xs (l.set x (l.getD x .dead).strip)
def brwIn (s : Nat) (l : List AV) : Option (List AV) := match l.getD s .dead with
  | .un none sz n g => cond ((l.set s .dead).all (noptr [(s, 0)])) (some (l.set s (.un (some s) sz n g))) none
  | _ => none
def brwOut (s : Nat) (l : List AV) : Option (List AV) := match l.getD s .dead with
  | .un (some s') sz n g => cond (Nat.beq s s' && (l.set s .dead).all (noptr [(s, 0)])) (some (l.set s (.un none sz n g))) none
  | _ => none
def plugI (gf sz bytes : Nat) : Bool := Nat.beq gf 45 && Nat.beq sz 2 && Nat.beq bytes 32
def inPx (px : List Nat) (h : Nat) : Bool := px.any fun y => Nat.beq y h
def onlyC (y : Bool) (px : List Nat) : AV → Bool
  | .ptr h _ => inPx px h
  | .clo _ cs => cs.all fun c => inPx px c.1
  | .dead | .sc _ | .row .. => true
  | .yld => y
  | _ => false
def only2 (y : Bool) (px : List Nat) : AV → Bool
  | .agg cs => cs.all (onlyC y px)
  | a => onlyC y px a
def only3 (y : Bool) (px : List Nat) : AV → Bool
  | .tup vs => vs.all (only2 y px)
  | a => only2 y px a
def noY : AV → Bool
  | .yld => false
  | _ => true
def kept (bs : Nat) (l : List AV) : List AV := (l.take bs).map AV.strip
def itSlots (bs : Nat) (caps : List (Nat × Nat)) : List AV := .yld :: (caps.map (fun x => AV.ptr x.1 x.2) ++ List.replicate (bs - 1 - caps.length) .dead)
def yRun (Y : List AV → List AV → (List AV → Option R) → Option R) (cal : IA) (args : List IA) (dst : Nat) (l1 : List AV) (K : List AV → Option R) : Option R := match rd l1 cal with
  | .yld => Y (args.map fun x => (rd l1 x).strip) l1 fun l2 => K (l2.set dst (.sc (.bool true)))
  | _ => none
def yGuard (gd : Option (Nat × Bool)) (l1 : List AV) (run skip : Option R) : Option R := match gd with
  | none => run
  | some (s, want) => match l1.getD s .dead with
    | .sc (.bool b) => cond b (match want with
      | true => run
      | false => skip) (match want with
      | true => skip
      | false => run)
    | .tup [] => skip
    | _ => none
def execI (call : Nat → List AV → List (List AV) → Option Ret) (n : Nat) (Y : List AV → List AV → (List AV → Option R) → Option R) : IC → List AV → (Ex → List AV → Option R) → Option R
  | .skip, l, k => k .norm l
  | .stuck, _, _ => none
  | .reg ops, l, k => steps call ops l (k .norm)
  | .seq a b, l, k => execI call n Y a l fun e l' => match e with
    | .norm => execI call n Y b l' k
    | e => k e l'
  | .cond c a b, l, k => match rd l c with
    | .sc (.bool t) => cond t (execI call n Y a l k) (execI call n Y b l k)
    | _ => none
  | .blk id b, l, k => execI call n Y b l fun e l' => match e with
    | .exit i => cond (Nat.beq i id) (k .norm l') (k (.exit i) l')
    | e => k e l'
  | .loop b, l, k => loopN (execI call n Y b) n l k
  | .exit id, l, k => k (.exit id) l
  | .ret, l, k => k .ret l
  | .clr xs hs c, l, k => match clear xs hs l with
    | some l' => execI call n Y c l' k
    | none => none
  | .fin c xs hs, l, k => execI call n Y c l fun e l' => match e with
    | .norm => match clear xs hs l' with
      | some l2 => k .norm l2
      | none => none
    | e => k e l'
  | .brw .., _, _ | .plug .., _, _ | .wk .., _, _ => none
  | .yreg pre cal args gd dst post, l, k => steps call pre l fun l1 => yGuard gd l1 (yRun Y cal args dst l1 fun l2 => steps call post l2 (k .norm)) (steps call post (l1.set dst (.tup [])) (k .norm))
  | .rfn .., _, _ => none
def exec (call : Nat → List AV → List (List AV) → Option Ret) (n : Nat) : IC → List AV → (Ex → List AV → Option R) → Option R
  | .skip, l, k => k .norm l
  | .stuck, _, _ => none
  | .reg ops, l, k => steps call ops l (k .norm)
  | .seq a b, l, k => exec call n a l fun e l' => match e with
    | .norm => exec call n b l' k
    | e => k e l'
  | .cond c a b, l, k => match rd l c with
    | .sc (.bool t) => cond t (exec call n a l k) (exec call n b l k)
    | _ => none
  | .blk id b, l, k => exec call n b l fun e l' => match e with
    | .exit i => cond (Nat.beq i id) (k .norm l') (k (.exit i) l')
    | e => k e l'
  | .loop b, l, k => loopN (exec call n b) n l k
  | .exit id, l, k => k (.exit id) l
  | .ret, l, k => k .ret l
  | .clr xs hs c, l, k => match clear xs hs l with
    | some l' => exec call n c l' k
    | none => none
  | .fin c xs hs, l, k => exec call n c l fun e l' => match e with
    | .norm => match clear xs hs l' with
      | some l2 => k .norm l2
      | none => none
    | e => k e l'
  | .wk xs c, l, k => exec call n c (weaken xs l) k
  | .brw s c, l, k => match brwIn s l with
    | some l1 => exec call n c l1 fun e l2 => match e with
      | .norm => match brwOut s l2 with
        | some l3 => k .norm l3
        | none => none
      | _ => none
    | none => none
  | .yreg .., _, _ | .plug .., _, _ => none
  | .rfn x gf bs itnt ps it asg body px pb, l, k => match rd l x with
    | .clo f0 caps => cond (Nat.beq f0 gf && Nat.ble (caps.length + 1) itnt && (kept bs l).all (only3 false px) && (l.drop bs).all noY && caps.all fun c => inPx px c.1)
      (execI call n (fun args lc K => cond ((kept bs lc).all (only3 true pb) && Nat.beq args.length ps.length) (exec call n asg (setMany (kept bs l ++ lc.drop bs) ps args) fun e l1 => match e with
          | .norm => exec call n body l1 fun e l2 => match e with
            | .norm => K (kept bs lc ++ l2.drop bs)
            | _ => none
          | _ => none) none)
        it (itSlots bs caps ++ l.drop bs) fun e l' => match e with
          | .exit _ => none
          | _ => cond ((l'.drop bs).all noY) (k .norm (kept bs l ++ l'.drop bs)) none) none
    | _ => none
end
def getMany (l : List AV) (is : List Nat) : List AV := is.map fun i => l.getD i .dead
def inPass : List (Nat × Nat) → List (List AV) → List AV → Option (List AV)
  | [], [], l => some l
  | (h, n) :: ps, cs :: r, l => cond (Nat.beq cs.length n) (inPass ps r (setMany l (rng h (n + 1)) (.hdr n :: cs))) none
  | _, _, _ => none
def res1 (l : List AV) : IRes → Option AV
  | .slot t => match l.getD t .dead with
    | .tup _ => none
    | a => some a
  | .cell a h n ag => match l.getD a .dead, l.getD h .dead with
    | .ptr h' 0, .hdr m => cond (Nat.beq h h' && Nat.beq n m) (some (mkv ag (getMany l (rng (h + 1) n)))) none
    | _, _ => none
def resL (l : List AV) : List IRes → Option (List AV)
  | [] => some []
  | r :: rs => match res1 l r, resL l rs with
    | some a, some as => some (a :: as)
    | _, _ => none
def outPass (l : List AV) : List (Nat × Nat) → Option (List (List AV))
  | [] => some []
  | (h, n) :: ps => match l.getD h .dead, outPass l ps with
    | .hdr m, some r => cond (Nat.beq n m) (some (getMany l (rng (h + 1) n) :: r)) none
    | _, _ => none
def finish (f : IFn) (l : List AV) : Option Ret :=
  match resL l f.res, outPass l f.pass, outPass l f.exp with
  | some rs, some cs, some es => some ⟨match rs with
    | [r] => r
    | rs => .tup rs, cs, es⟩
  | _, _, _ => none
def start (f : IFn) (args : List AV) (cells : List (List AV)) : Option (List AV) :=
  cond (Nat.beq args.length f.np) (inPass f.pass cells (args ++ List.replicate (f.total - f.np) .dead)) none
def plugK (sz bytes : Nat) : List AV → List (List AV) → Option Ret
  | [.un none sz1 n g, .sc (.int .i64 i), .row _ sz2 1 g2], [] => cond (Nat.beq sz sz1 && Nat.beq sz sz2) (cond (capB (n + 1) bytes) (cond (decide (0 ≤ i)) (cond (decide (i ≤ (n : Int))) (some ⟨.un none sz (n + 1) (insGet n i.toNat g g2), [], []⟩) none) none) none) none
  | _, _ => none
def runF (T : Nat → Option IFn) : Nat → Nat → List AV → List (List AV) → Option Ret
  | 0, _, _, _ => none
  | k + 1, id, args, cells => match T id with
    | none => none
    | some f => match f.body with
      | .plug sz bytes => plugK sz bytes args cells
      | _ => match start f args cells with
        | none => none
        | some l => exec (runF T k) k f.body l fun e l' => match e with
          | .exit _ => none
          | _ => finish f l'
end
end Go.Proofs.Ytafnmkbehjbkdaa.M
