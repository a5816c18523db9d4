/- Any operation but a call: if it is the model's own, as the check tells, then what the small machine answers the model does. -/
import Derived.Test.YtafnmkbehjbkdaaMachIb
set_option linter.unusedVariables false
set_option linter.unusedSimpArgs false
namespace Go.Proofs.Ytafnmkbehjbkdaa.M
open Go Go.RowKit
def dstB (o : Oper) : Bool := o.dst.isSome
def chkOp (P : Program) (f : IFn) (o : Oper) (io : IOp) : Bool := match io with
  | .mv tk ia => match o.op with
    | .move x | .assign x => chkA f x ia && dstB o
    | _ => false
  | .pick ic ia ib => match o.op with
    | .pick c x y => chkA f c ic && chkA f x ia && chkA f y ib
    | _ => false
  | .alloc h zs => match o.op with
    | .alloc t => chkZ P t zs && inLay f h zs.length
    | _ => false
  | .box h n tk ia => match o.op with
    | .box t x => chkA f x ia && inLay f h n
    | _ => false
  | .load h j n ag tk a => match o.op with
    | .load t x => chkA f x (.s a) && inLay1 f h && chkT P t ag n && dstB o
    | _ => false
  | .loade n ag a => match o.op with
    | .load t x => chkA f x (.s a) && chkT P t ag n
    | _ => false
  | .store h j n tk a ia => match o.op with
    | .store t x y => chkA f x (.s a) && chkA f y ia && inLay1 f h && (chkT P t true n || chkT P t false n) && !dstB o
    | _ => false
  | .nil ia => match o.op with
    | .nilCheck x => chkA f x ia
    | _ => false
  | .bin op ia ib => match o.op with
    | .binOp op' _ x y _ => decide (op' = op) && chkA f x ia && chkA f y ib
    | _ => false
  | .eqb neg ia ib => match o.op with
    | .binOp op' t x y _ => decide (op' = cond neg .neq .eql) && chkA f x ia && chkA f y ib && (match P.underlying t with
      | some .bool => true
      | _ => false)
    | _ => false
  | .eqs ks neg ia ib => match o.op with
    | .binOp op' t x y _ => decide (op' = cond neg .neq .eql) && chkA f x ia && chkA f y ib && chkEq P t ks
    | _ => false
  | .nilq neg ia => match o.op with
    | .binOp op' t x (.const (.slice none 0 0)) _ => decide (op' = cond neg .neq .eql) && chkA f x ia && (match P.underlying t with
      | some (.slice _) => true
      | _ => false)
    | _ => false
  | .un op ia => match o.op with
    | .unOp op' _ x => decide (op' = op) && chkA f x ia
    | _ => false
  | .conv kd ia => match o.op with
    | .convert s t x => chkA f x ia && (P.underlying s).isSome && (match P.underlying t with
      | some (.int k') => decide (k' = kd)
      | _ => false)
    | _ => false
  | .fld off ia => match o.op with
    | .fieldAddr s x fd => chkA f x ia && chkFld P s fd off
    | .indexAddr t x (.const (.int _ n)) => chkA f x ia && decide (n = (n.toNat : Int)) && chkArr P t n.toNat off
    | _ => false
  | .fieldv off n ag ia => match o.op with
    | .field s x fd => chkA f x ia && (match P.underlying s with
      | some (.struct fs) => match fs[fd]? with
        | some fl => Nat.beq fl.offset off && chkT P fl.type ag n
        | none => false
      | _ => false)
    | _ => false
  | .idx sz ia ib => match o.op with
    | .indexAddr t x y => chkA f x ia && chkA f y ib && chkS P t sz
    | _ => false
  | .slice sz ia lo hi mx => match o.op with
    | .slice t x lo' hi' mx' => chkA f x ia && chkO f lo' lo && chkO f hi' hi && chkO f mx' mx && chkS P t sz
    | _ => false
  | .len str ia => match o.op with
    | .call c => match c.callee with
      | .builtin .len => match c.args.toList, c.argTypes.toList with
        | [x], [t] => chkA f x ia && (match P.underlying t with
          | some .string => str
          | some (.slice _) => !str
          | _ => false)
        | _, _ => false
      | _ => false
    | _ => false
  | .sidx ia ib => match o.op with
    | .index t x y => chkA f x ia && chkA f y ib && (match P.underlying t with
      | some .string => true
      | _ => false)
    | _ => false
  | .aidx n sz ag ia ib => match o.op with
    | .index s x y => chkA f x ia && chkA f y ib && (match P.underlying s with
      | some (.array m e) => Nat.beq n m && chkT P e ag sz
      | _ => false)
    | _ => false
  | .uapp sz bytes ia ib => match o.op with
    | .call c => match c.callee with
      | .builtin .append => match c.args.toList, c.argTypes.toList with
        | [x, y], [t, t'] => Nat.beq t t' && chkA f x ia && chkA f y ib && chkG P t sz bytes && dstB o
        | _, _ => false
      | _ => false
    | _ => false
  | .ualias ia => match o.op with
    | .move x | .assign x => chkA f x ia
    | _ => false
  | .uidx sz ia ib => match o.op with
    | .indexAddr t x y => chkA f x ia && chkA f y ib && chkS P t sz
    | _ => false
  | .uload s n ag a => match o.op with
    | .load t x => chkA f x (.s a) && Nat.blt s f.nt && chkT P t ag n
    | _ => false
  | .ustore s n a ia => match o.op with
    | .store t x y => chkA f x (.s a) && chkA f y ia && Nat.blt s f.nt && (chkT P t true n || chkT P t false n) && !dstB o
    | _ => false
  | .ufrz ia => match o.op with
    | .move x | .assign x => chkA f x ia && dstB o
    | _ => false
  | .buildl zs ps off s => match o.op with
    | .build t xs => chkB P f t xs.toList zs ps && lastIs ps off s && dstB o
    | _ => false
  | .cstr ia => match o.op with
    | .convert s t x => chkA f x ia && (match P.underlying s, P.underlying t with
      | some (.slice e), some .string => (match P.underlying e with
        | some (.int .u8) => true
        | _ => false)
      | _, _ => false)
    | _ => false
  | .eqt neg ia ib => match o.op with
    | .binOp op' _ x y _ => decide (op' = cond neg .neq .eql) && chkA f x ia && chkA f y ib
    | _ => false
  | .ubs sz len zs ps => match o.op with
    | .buildSlice t n xs => Nat.beq n len && chkBS P f t len sz xs.toList zs ps && dstB o
    | _ => false
  | .uconv ia => match o.op with
    | .convert s t x => Nat.beq s t && chkA f x ia && dstB o && (match P.underlying s with
      | some (.slice e) => (match P.underlying e with
        | some (.int .u8) => true
        | _ => false)
      | _ => false)
    | _ => false
  | .unew v => match o.op with
    | .move (.const (.slice none 0 0)) | .assign (.const (.slice none 0 0)) => true
    | _ => false
  | .mnmx m ias => match o.op with
    | .call c => match c.callee with
      | .builtin b => decide (b = cond m .max .min) && chkAs f c.args.toList ias
      | _ => false
    | _ => false
  | .app sz bytes tk ia ib => match o.op with
    | .call c => match c.callee with
      | .builtin .append => match c.args.toList, c.argTypes.toList with
        | [x, y], [t, t'] => Nat.beq t t' && chkA f x ia && chkA f y ib && chkG P t sz bytes && dstB o && (match ia with
          | .s _ => tk
          | .k _ => true)
        | _, _ => false
      | _ => false
    | _ => false
  | .build zs ps => match o.op with
    | .build t xs => chkB P f t xs.toList zs ps
    | _ => false
  | .bslice sz len zs ps => match o.op with
    | .buildSlice t len' xs => Nat.beq len' len && chkBS P f t len sz xs.toList zs ps
    | _ => false
  | .ext tk i ia => match o.op with
    | .extract x i' => Nat.beq i' i && chkA f x ia && dstB o
    | _ => false
  | .mkclo fn ias => match o.op with
    | .makeFunc (.func fn') first xs => Nat.beq fn' fn && first.isEmpty && chkAs f xs.toList ias
    | _ => false
  | .call .. | .callv .. | .ro .. => false
section
variable {P : Program} {f : IFn} {g : Gh} {w : World} {l : List AV} {a : Act} {K : Act → World → Prop} {Q : Exit → Act → World → Prop} {o : Oper} {R : Type} {r : R} {k : AV → List AV → Option R}
theorem toList_eq {α : Type} {xs : Array α} {l : List α} (h : xs.toList = l) : xs = l.toArray := by apply Array.ext'; simpa using h
theorem comp_sound (hl : LayOk f) (h : Rel f g w l a.tmps) (hd : DstOk f o.dst) {io : IOp} (hc : chkOp P f o io = true) {call : Nat → List AV → List (List AV) → Option Ret}
    (hk : comp call io (io.opds.map (rd l)) k = some r) (H : Fin f g w l a o.dst io.exw k r K) : o.wp P a w K Q := by
  cases io with
  | mv tk ia =>
    simp only [chkOp] at hc
    split at hc <;> try cases hc
    · rename_i x hop
      simp only [Bool.and_eq_true] at hc
      exact op_mv hl h hd (.inl hop) hc.1 hc.2 hk H
    · rename_i x hop
      simp only [Bool.and_eq_true] at hc
      exact op_mv hl h hd (.inr hop) hc.1 hc.2 hk H
  | pick ic ia ib =>
    simp only [chkOp] at hc
    split at hc <;> try cases hc
    rename_i c x y hop
    simp only [Bool.and_eq_true] at hc
    have hk : pickK (rd l ic) (rd l ia) (rd l ib) k = some r := hk
    unfold pickK at hk
    split at hk
    · rename_i b hb
      exact op_pick hl h hd hop hc.1.1 hc.1.2 hc.2 hb hk H
    · cases hk
  | alloc b zs =>
    simp only [chkOp] at hc
    split at hc <;> try cases hc
    rename_i t hop
    simp only [Bool.and_eq_true] at hc
    have hk : allocK b zs (l.getD b .dead) k = some r := hk
    unfold allocK at hk
    split at hk
    · rename_i hb
      exact op_alloc hl h hd hop hc.1 hc.2 hb hk H
    · cases hk
  | box b n tk ia =>
    simp only [chkOp] at hc
    split at hc <;> try cases hc
    rename_i t x hop
    simp only [Bool.and_eq_true] at hc
    have hk : boxK b n tk ia (l.getD b .dead) (rd l ia) k = some r := hk
    unfold boxK at hk
    split at hk
    · rename_i hb
      split at hk
      · rename_i cs hcs
        obtain ⟨h1, hk⟩ := cond_some hk
        simp only [Bool.and_eq_true] at h1
        exact op_box hl h hd hop hc.1 hc.2 hb hcs (nbeq h1.1) h1.2 hk H
      · cases hk
    · cases hk
  | load b j n ag tk ad =>
    simp only [chkOp] at hc
    split at hc <;> try cases hc
    rename_i t x hop
    simp only [Bool.and_eq_true] at hc
    have hk : loadK b j n ag tk (l.getD ad .dead) (l.getD b .dead) (((rng (b + 1 + j) n).map IA.s).map (rd l)) k = some r := hk
    unfold loadK at hk
    split at hk
    · rename_i h' j' ha
      split at hk
      · rename_i m hh
        obtain ⟨h1, hk2⟩ := cond_some hk; clear hk
        simp only [Bool.and_eq_true] at h1
        have e1 := nbeq h1.1.1; have e2 := nbeq h1.1.2; have e3 := nble h1.2
        subst e1; subst e2
        rw [rd_rng] at hk2
        exact op_load hl h hd hop hc.1.1.1 hc.1.1.2 hc.1.2 ha hh e3 (fun _ => hc.2) hk2 H
      · cases hk
    · cases hk
  | loade n ag ad =>
    simp only [chkOp] at hc
    split at hc <;> try cases hc
    rename_i t x hop
    simp only [Bool.and_eq_true] at hc
    have hk : loadeK n ag (l.getD ad .dead) k = some r := hk
    unfold loadeK at hk
    split at hk
    · rename_i cs ha
      obtain ⟨h1, hk⟩ := cond_some hk
      exact op_loade hl h hd hop hc.1 hc.2 ha (nble h1) hk H
    · cases hk
  | store b j n tk ad ia =>
    simp only [chkOp] at hc
    split at hc <;> try cases hc
    rename_i t x y hop
    simp only [Bool.and_eq_true, Bool.or_eq_true] at hc
    have hk : storeK b j n tk ia (l.getD ad .dead) (l.getD b .dead) (rd l ia) k = some r := hk
    unfold storeK at hk
    split at hk
    · rename_i h' j' ha
      split at hk
      · rename_i m hh
        split at hk
        · rename_i cs hcs
          obtain ⟨h1, hk2⟩ := cond_some hk; clear hk
          simp only [Bool.and_eq_true] at h1
          have e1 := nbeq h1.1.1.1.1; have e2 := nbeq h1.1.1.1.2; have e3 := nble h1.1.1.2; have e4 := nbeq h1.1.2
          subst e1; subst e2
          have hdn : o.dst = none := by
            have := hc.2
            unfold dstB at this
            cases hdd : o.dst with
            | none => rfl
            | some d => rw [hdd] at this; cases this
          rcases hc.1.2 with ht | ht
          · exact op_store hl h hdn hop hc.1.1.1.1 hc.1.1.1.2 hc.1.1.2 ht ha hh e3 hcs e4 h1.2 hk2 H
          · exact op_store hl h hdn hop hc.1.1.1.1 hc.1.1.1.2 hc.1.1.2 ht ha hh e3 hcs e4 h1.2 hk2 H
        · cases hk
      · cases hk
    · cases hk
  | nil ia =>
    simp only [chkOp] at hc
    split at hc <;> try cases hc
    rename_i x hop
    exact op_nil hl h hd hop hc hk H
  | bin op ia ib =>
    simp only [chkOp] at hc
    split at hc <;> try cases hc
    rename_i op' t x y ty hop
    simp only [Bool.and_eq_true, decide_eq_true_eq] at hc
    obtain ⟨⟨rfl, h1⟩, h2⟩ := hc
    exact op_bin hl h hd hop h1 h2 hk H
  | eqb neg ia ib =>
    simp only [chkOp] at hc
    split at hc <;> try cases hc
    rename_i op' t x y ty hop
    simp only [Bool.and_eq_true, decide_eq_true_eq] at hc
    obtain ⟨⟨⟨rfl, h1⟩, h2⟩, h3⟩ := hc
    split at h3 <;> try cases h3
    rename_i ht
    exact op_eqb hl h hd hop h1 h2 ht hk H
  | eqs ks neg ia ib =>
    simp only [chkOp] at hc
    split at hc <;> try cases hc
    rename_i op' t x y ty hop
    simp only [Bool.and_eq_true, decide_eq_true_eq] at hc
    obtain ⟨⟨⟨rfl, h1⟩, h2⟩, h3⟩ := hc
    exact op_eqs hl h hd hop h1 h2 h3 hk H
  | nilq neg ia =>
    simp only [chkOp] at hc
    split at hc <;> try cases hc
    rename_i op' t x ty hop
    simp only [Bool.and_eq_true, decide_eq_true_eq] at hc
    obtain ⟨⟨rfl, h1⟩, h3⟩ := hc
    split at h3 <;> try cases h3
    rename_i e ht
    exact op_nilq hl h hd hop h1 ht hk H
  | un op ia =>
    simp only [chkOp] at hc
    split at hc <;> try cases hc
    rename_i op' t x hop
    simp only [Bool.and_eq_true, decide_eq_true_eq] at hc
    obtain ⟨rfl, h1⟩ := hc
    exact op_un hl h hd hop h1 hk H
  | conv kd ia =>
    simp only [chkOp] at hc
    split at hc <;> try cases hc
    rename_i s t x hop
    simp only [Bool.and_eq_true] at hc
    obtain ⟨⟨h1, h2⟩, h3⟩ := hc
    split at h3 <;> try cases h3
    rename_i k' ht
    have h3 := of_decide_eq_true h3
    subst h3
    have hk : convK k' (rd l ia) (fun v => k v []) = some r := hk
    unfold convK at hk
    split at hk
    · rename_i k0 n hv
      exact op_conv hl h hd hop h1 h2 ht hv hk H
    · cases hk
  | fld off ia =>
    simp only [chkOp] at hc
    split at hc <;> try cases hc
    · rename_i s x fd hop
      simp only [Bool.and_eq_true] at hc
      exact op_fld hl h hd hop hc.1 hc.2 hk H
    · rename_i t x kd n hop
      simp only [Bool.and_eq_true, decide_eq_true_eq] at hc
      exact op_arr hl h hd hc.1.2 hop hc.1.1 hc.2 hk H
  | fieldv off n ag ia =>
    simp only [chkOp] at hc
    split at hc <;> try cases hc
    rename_i s x fd hop
    simp only [Bool.and_eq_true] at hc
    obtain ⟨h1, h2⟩ := hc
    split at h2 <;> try cases h2
    rename_i fs hfs
    split at h2 <;> try cases h2
    rename_i fl hfl
    simp only [Bool.and_eq_true] at h2
    have hk : fieldvK off n ag (rd l ia) (fun v => k v []) = some r := hk
    unfold fieldvK at hk
    split at hk
    · rename_i cs hv
      obtain ⟨h3, hk⟩ := cond_some hk
      exact op_fieldv hl h hd hop h1 hfs hfl (nbeq h2.1) h2.2 hv (nble h3) hk H
    · cases hk
  | idx sz ia ib =>
    simp only [chkOp] at hc
    split at hc <;> try cases hc
    rename_i t x y hop
    simp only [Bool.and_eq_true] at hc
    have hk : idxK sz (rd l ia) (rd l ib) (fun v => k v []) = some r := hk
    unfold idxK at hk
    split at hk
    · rename_i ap sz' n gt hrx
      split at hk
      · rename_i kd i hry
        obtain ⟨h3, hk2⟩ := cond_some hk; clear hk
        have := nbeq h3; subst this
        exact op_idx hl h hd hop hc.1.1 hc.1.2 hc.2 hrx hry hk2 H
      · cases hk
    · cases hk
  | slice sz ia lo hi mx =>
    simp only [chkOp] at hc
    split at hc <;> try cases hc
    rename_i t x lo' hi' mx' hop
    simp only [Bool.and_eq_true] at hc
    have hk : optI lo ((lo.toList ++ hi.toList ++ mx.toList).map (rd l)) (fun l' vs => optI hi vs fun h' vs => optI mx vs fun m' _ => sliceK sz (rd l ia) l' h' m' fun v => k v []) = some r := hk
    rw [List.map_append, List.map_append, List.append_assoc] at hk
    exact op_slice hl h hd hop hc.1.1.1.1 hc.1.1.1.2 hc.1.1.2 hc.1.2 hc.2 hk H
  | len str ia =>
    simp only [chkOp] at hc
    split at hc <;> try cases hc
    rename_i c hop
    split at hc <;> try cases hc
    rename_i hcal
    split at hc <;> try cases hc
    rename_i x t hargs htys
    simp only [Bool.and_eq_true] at hc
    obtain ⟨h1, h2⟩ := hc
    have hop' : o.op = .call { callee := .builtin .len, args := #[x], argTypes := #[t] } := by
      rw [hop]; obtain ⟨c1, c2, c3⟩ := c; simp only at hcal hargs htys; rw [hcal, toList_eq hargs, toList_eq htys]
    split at h2
    · rename_i ht
      subst h2
      exact op_len (str := true) hl h hd hop' h1 ht hk H
    · rename_i e ht
      cases str with
      | true => cases h2
      | false => exact op_len (str := false) hl h hd hop' h1 ⟨e, ht⟩ hk H
    · cases h2
  | sidx ia ib =>
    simp only [chkOp] at hc
    split at hc <;> try cases hc
    rename_i t x y hop
    simp only [Bool.and_eq_true] at hc
    obtain ⟨⟨h1, h2⟩, h3⟩ := hc
    split at h3 <;> try cases h3
    rename_i ht
    exact op_sidx hl h hd hop h1 h2 ht hk H
  | aidx n sz ag ia ib =>
    simp only [chkOp] at hc
    split at hc <;> try cases hc
    rename_i s x y hop
    simp only [Bool.and_eq_true] at hc
    obtain ⟨⟨h1, h2⟩, h3⟩ := hc
    split at h3 <;> try cases h3
    rename_i m e hfs
    simp only [Bool.and_eq_true] at h3
    have := nbeq h3.1
    subst this
    have hk : aidxK n sz ag (rd l ia) (rd l ib) (fun v => k v []) = some r := hk
    unfold aidxK at hk
    split at hk
    · rename_i cs hrx
      split at hk
      · rename_i kd i hry
        obtain ⟨h4, hk⟩ := cond_some hk
        obtain ⟨j, _, hj, e1, hk2⟩ := selK_ok hk
        subst e1
        exact op_aidx hl h hd hop h1 h2 hfs h3.2 hrx hry (by omega) (nble h4) hk2 H
      · cases hk
    · cases hk
  | uapp sz bytes ia ib =>
    simp only [chkOp] at hc
    split at hc <;> try cases hc
    rename_i c hop
    split at hc <;> try cases hc
    rename_i hcal
    split at hc <;> try cases hc
    rename_i x y t t' hargs htys
    simp only [Bool.and_eq_true] at hc
    obtain ⟨⟨⟨⟨h1, h2⟩, h3⟩, h4⟩, h5⟩ := hc
    have h1 := nbeq h1; subst h1
    have hop' : o.op = .call { callee := .builtin .append, args := #[x, y], argTypes := #[t, t] } := by
      rw [hop]; obtain ⟨c1, c2, c3⟩ := c; simp only at hcal hargs htys; rw [hcal, toList_eq hargs, toList_eq htys]
    have hk : uappK sz bytes ia (rd l ia) (rd l ib) k = some r := hk
    cases ia with
    | k v =>
      exfalso
      unfold uappK at hk
      split at hk <;> try cases hk
      split at hk <;> try cases hk
      · obtain ⟨_, hk⟩ := cond_some hk
        obtain ⟨_, hk⟩ := cond_some hk
        cases hk
      · obtain ⟨_, hk⟩ := cond_some hk
        obtain ⟨_, hk⟩ := cond_some hk
        cases hk
    | s s =>
      obtain ⟨L1, hv1, hs1⟩ := rd_ok h h2
      obtain ⟨hs, rfl, rfl⟩ := hs1 s rfl
      unfold uappK at hk
      split at hk <;> try cases hk
      rename_i ap sz2 m g2 hry
      split at hk
      · rename_i sz1 n g1 hrx
        obtain ⟨h7, hk1⟩ := cond_some hk
        obtain ⟨h8, hk9⟩ := cond_some hk1
        simp only [Bool.and_eq_true] at h7
        have e1 := nbeq h7.1; have e2 := nbeq h7.2
        subst e1; subst e2
        rw [hrx] at hv1
        exact op_uapp hl h hd hop' hs h3 h4 h5 hv1.un_inv hry (capB_iff.1 h8) hk9 H
      · rename_i sz1 g1 hrx
        obtain ⟨h7, hk1⟩ := cond_some hk
        obtain ⟨h8, hk9⟩ := cond_some hk1
        simp only [Bool.and_eq_true] at h7
        have e1 := nbeq h7.1; have e2 := nbeq h7.2
        subst e1; subst e2
        rw [hrx] at hv1
        exact op_uapp hl h hd hop' hs h3 h4 h5 (row0_un hv1) hry (capB_iff.1 h8) hk9 H
      · cases hk
  | ualias ia =>
    simp only [chkOp] at hc
    have hk : ualiasK (rd l ia) (fun v => k v []) = some r := hk
    unfold ualiasK at hk
    split at hk <;> try cases hk
    rename_i s sz n gt hrx
    split at hc <;> try cases hc
    · rename_i x hop; exact op_ualias hl h hd (.inl hop) hc hrx hk H
    · rename_i x hop; exact op_ualias hl h hd (.inr hop) hc hrx hk H
  | uidx sz ia ib =>
    simp only [chkOp] at hc
    split at hc <;> try cases hc
    rename_i t x y hop
    simp only [Bool.and_eq_true] at hc
    have hk : uidxK sz (rd l ia) (rd l ib) (fun v => k v []) = some r := hk
    unfold uidxK at hk
    split at hk <;> try cases hk
    rename_i s sz' n hrx
    split at hk <;> try cases hk
    rename_i kd i hry
    obtain ⟨h3, hk9⟩ := cond_some hk
    have := nbeq h3; subst this
    exact op_uidx hl h hd hop hc.1.1 hc.1.2 hc.2 hrx hry hk9 H
  | uload s n ag ad =>
    simp only [chkOp] at hc
    split at hc <;> try cases hc
    rename_i t x hop
    simp only [Bool.and_eq_true] at hc
    have hk : uloadK s n ag (l.getD ad .dead) (l.getD s .dead) (fun v => k v []) = some r := hk
    unfold uloadK at hk
    split at hk <;> try cases hk
    rename_i s1 sz q off hrx
    split at hk <;> try cases hk
    rename_i s2 sz' m gt hrs
    obtain ⟨h3, hk1⟩ := cond_some hk
    obtain ⟨h4, hk9⟩ := cond_some hk1
    simp only [Bool.and_eq_true] at h3
    have e1 := nbeq h3.1.1.1; have e2 := nbeq h3.1.1.2; have e3 := nbeq h3.1.2
    subst e1; subst e2; subst e3
    exact op_uload hl h hd hop hc.1.1 hc.2 (nblt hc.1.2) hrx hrs (of_decide_eq_true h4) (nble h3.2) hk9 H
  | ustore s n ad ia =>
    simp only [chkOp] at hc
    split at hc <;> try cases hc
    rename_i t x y hop
    simp only [Bool.and_eq_true] at hc
    obtain ⟨⟨⟨⟨c1, c2⟩, c3⟩, c4⟩, c5⟩ := hc
    have hk : ustoreK s n (l.getD ad .dead) (l.getD s .dead) (rd l ia) k = some r := hk
    unfold ustoreK at hk
    split at hk <;> try cases hk
    rename_i s1 sz q off hrx
    split at hk <;> try cases hk
    rename_i s2 sz' m gt hrs
    split at hk <;> try cases hk
    rename_i cs hcs
    obtain ⟨h3, hk1⟩ := cond_some hk
    obtain ⟨h4, hk9⟩ := cond_some hk1
    simp only [Bool.and_eq_true] at h3
    obtain ⟨⟨⟨⟨⟨e1, e2⟩, e3⟩, e4⟩, e5⟩, e6⟩ := h3
    have e1 := nbeq e1; have e2 := nbeq e2; have e3 := nbeq e3
    subst e1; subst e2; subst e3
    have hdn : o.dst = none := by
      unfold dstB at c5
      cases hh : o.dst with
      | none => rfl
      | some d => rw [hh] at c5; cases c5
    rcases (Bool.or_eq_true _ _).mp c4 with ht | ht
    · exact op_ustore hl h hdn hop c1 c2 ht (nblt c3) hrx hrs (of_decide_eq_true h4) (nble e4) hcs (nbeq e5) e6 hk9 H
    · exact op_ustore hl h hdn hop c1 c2 ht (nblt c3) hrx hrs (of_decide_eq_true h4) (nble e4) hcs (nbeq e5) e6 hk9 H
  | ufrz ia =>
    simp only [chkOp] at hc
    have hk : ufrzK ia (rd l ia) k = some r := hk
    unfold ufrzK at hk
    split at hk <;> try cases hk
    rename_i sz n gt hrx
    cases ia with
    | k v => cases hk
    | s s =>
      have hk : k (.row true sz n gt) [.dead] = some r := hk
      split at hc <;> try cases hc
      · rename_i x hop
        simp only [Bool.and_eq_true] at hc
        exact op_ufrz hl h hd (.inl hop) hc.1 hc.2 hrx hk H
      · rename_i x hop
        simp only [Bool.and_eq_true] at hc
        exact op_ufrz hl h hd (.inr hop) hc.1 hc.2 hrx hk H
  | buildl zs ps off s =>
    simp only [chkOp] at hc
    split at hc <;> try cases hc
    rename_i t xs hop
    simp only [Bool.and_eq_true] at hc
    have hk : buildlK zs ps off ((ps.map (·.2.2)).map (rd l)) k = some r := hk
    unfold buildlK at hk
    rw [List.map_map] at hk
    split at hk <;> try cases hk
    rename_i cs hcs
    have hla := lastA_is (l := l) hc.1.2
    have hla' : lastA (List.map (rd l ∘ fun x => x.2.2) ps) = l.getD s .dead := hla
    rw [hla'] at hk
    split at hk <;> try cases hk
    rename_i sz n gt hrs
    obtain ⟨h1, hk⟩ := cond_some hk
    simp only [Bool.and_eq_true] at h1
    exact op_buildl hl h hd hc.2 hop hc.1.1 hc.1.2 hcs hrs (nblt h1.1) h1.2 hk H
  | cstr ia =>
    simp only [chkOp] at hc
    split at hc <;> try cases hc
    rename_i s t x hop
    simp only [Bool.and_eq_true] at hc
    obtain ⟨h1, h2⟩ := hc
    split at h2 <;> try cases h2
    rename_i e hs ht
    split at h2 <;> try cases h2
    rename_i he
    have hk : strK (rd l ia) (fun v => k v []) = some r := hk
    unfold strK at hk
    split at hk <;> try cases hk
    rename_i ap sz n gt hrx
    obtain ⟨h3, hk⟩ := cond_some hk
    have e3 := nbeq h3
    subst e3
    split at hk <;> try cases hk
    rename_i L hL
    exact op_str hl h hd hop h1 hs he ht hrx hL hk H
  | eqt neg ia ib =>
    simp only [chkOp] at hc
    split at hc <;> try cases hc
    rename_i op' t x y ty hop
    simp only [Bool.and_eq_true, decide_eq_true_eq] at hc
    obtain ⟨⟨rfl, h1⟩, h2⟩ := hc
    exact op_eqt hl h hd hop h1 h2 hk H
  | ubs sz len zs ps =>
    simp only [chkOp] at hc
    split at hc <;> try cases hc
    rename_i t n xs hop
    simp only [Bool.and_eq_true] at hc
    obtain ⟨⟨h1, h2⟩, h3⟩ := hc
    have e1 := nbeq h1
    subst e1
    have hk : ubsK sz n zs ps ((ps.map (·.2.2)).map (rd l)) (fun v => k v []) = some r := hk
    unfold ubsK at hk
    rw [List.map_map] at hk
    split at hk <;> try cases hk
    rename_i cs hcs
    obtain ⟨h4, hk⟩ := cond_some hk
    simp only [Bool.and_eq_true] at h4
    exact op_ubs hl h hd h3 hop h2 hcs h4.1 (nble h4.2) hk H
  | uconv ia =>
    simp only [chkOp] at hc
    split at hc <;> try cases hc
    rename_i s t x hop
    simp only [Bool.and_eq_true] at hc
    obtain ⟨⟨⟨h1, h2⟩, h3⟩, h4⟩ := hc
    have e1 := nbeq h1
    subst e1
    split at h4 <;> try cases h4
    rename_i e hs
    split at h4 <;> try cases h4
    rename_i he
    have hk : uconvK ia (rd l ia) k = some r := hk
    unfold uconvK at hk
    split at hk <;> try cases hk
    rename_i sz n gt hrx
    obtain ⟨h5, hk⟩ := cond_some hk
    cases ia with
    | k v => cases hk
    | s s0 =>
      have hk : k (.row false sz n gt) [.dead] = some r := hk
      exact op_uconv hl h hd hop h2 h3 hs he (nble h5) hrx hk H
  | unew v =>
    simp only [chkOp] at hc
    have hk : unewK v (fun v => k v []) = some r := hk
    unfold unewK at hk
    split at hk <;> try cases hk
    split at hc <;> try cases hc
    · rename_i hop; exact op_unew hl h hd (.inl hop) rfl hk H
    · rename_i hop; exact op_unew hl h hd (.inr hop) rfl hk H
  | mnmx m ias =>
    simp only [chkOp] at hc
    split at hc <;> try cases hc
    rename_i c hop
    split at hc <;> try cases hc
    rename_i b hcal
    simp only [Bool.and_eq_true, decide_eq_true_eq] at hc
    obtain ⟨rfl, h1⟩ := hc
    have hop' : o.op = .call { callee := .builtin (cond m .max .min), args := c.args, argTypes := c.argTypes } := by
      rw [hop]; obtain ⟨c1, c2, c3⟩ := c; simp only at hcal; rw [hcal]
    have hk : mnmxK m (ias.map (rd l)) (fun v => k v []) = some r := hk
    unfold mnmxK at hk
    split at hk
    · rename_i ka x as he
      exact op_mnmx hl h hd hop' h1 he hk H
    · cases hk
  | app sz bytes tk ia ib =>
    simp only [chkOp] at hc
    split at hc <;> try cases hc
    rename_i c hop
    split at hc <;> try cases hc
    rename_i hcal
    split at hc <;> try cases hc
    rename_i x y t t' hargs htys
    simp only [Bool.and_eq_true] at hc
    obtain ⟨⟨⟨⟨⟨h1, h2⟩, h3⟩, h4⟩, h5⟩, h6⟩ := hc
    have h1 := nbeq h1; subst h1
    have hop' : o.op = .call { callee := .builtin .append, args := #[x, y], argTypes := #[t, t] } := by
      rw [hop]; obtain ⟨c1, c2, c3⟩ := c; simp only at hcal hargs htys; rw [hcal, toList_eq hargs, toList_eq htys]
    have hk : appK sz bytes tk ia (rd l ia) (rd l ib) k = some r := hk
    unfold appK at hk
    split at hk
    · rename_i ap sz1 n g1 hrx
      split at hk
      · rename_i ap2 sz2 m g2 hry
        obtain ⟨h7, hk1⟩ := cond_some hk
        obtain ⟨h8, hk2⟩ := cond_some hk1; clear hk hk1
        simp only [Bool.and_eq_true] at h7
        have e1 := nbeq h7.1.2; have e2 := nbeq h7.2
        subst e1; subst e2
        rw [h7.1.1] at hrx
        exact op_app hl h hd hop' h2 h3 h4 h5 (fun s e => by subst e; exact h6) hrx hry (capB_iff.1 h8) hk2 H
      · cases hk
    · cases hk
  | build zs ps =>
    simp only [chkOp] at hc
    split at hc <;> try cases hc
    rename_i t xs hop
    have hk : buildK zs ps ((ps.map (·.2.2)).map (rd l)) (fun v => k v []) = some r := hk
    unfold buildK at hk
    split at hk
    · rename_i cs hcs
      exact op_build hl h hd hop hc (by rw [← hcs, List.map_map]; rfl) hk H
    · cases hk
  | bslice sz len zs ps =>
    simp only [chkOp] at hc
    split at hc <;> try cases hc
    rename_i t len' xs hop
    simp only [Bool.and_eq_true] at hc
    have e := nbeq hc.1; subst e
    have hk : bsliceK sz len' zs ps ((ps.map (·.2.2)).map (rd l)) (fun v => k v []) = some r := hk
    unfold bsliceK at hk
    split at hk
    · rename_i cs hcs
      obtain ⟨h1, hk⟩ := cond_some hk
      exact op_bslice hl h hd hop hc.2 (by rw [← hcs, List.map_map]; rfl) h1 hk H
    · cases hk
  | ext tk i ia =>
    simp only [chkOp] at hc
    split at hc <;> try cases hc
    rename_i x i' hop
    simp only [Bool.and_eq_true] at hc
    have e := nbeq hc.1.1; subst e
    have hk : extK tk i' ia (rd l ia) k = some r := hk
    unfold extK at hk
    split at hk
    · rename_i vs hv
      split at hk
      · rename_i v hvi
        exact op_ext hl h hd hop hc.1.2 (fun _ => hc.2) hv hvi hk H
      · cases hk
    · cases hk
  | mkclo fn ias =>
    simp only [chkOp] at hc
    split at hc <;> try cases hc
    rename_i fn' first xs hop
    simp only [Bool.and_eq_true] at hc
    have e := nbeq hc.1.1; subst e
    have e2 : first = #[] := by simpa using hc.1.2
    subst e2
    have hk : mkcloK fn' (ias.map (rd l)) (fun v => k v []) = some r := hk
    unfold mkcloK at hk
    split at hk
    · rename_i caps hp
      exact op_mkclo hl h hd hop hc.2 hp hk H
    · cases hk
  | call => cases hc
  | callv => cases hc
  | ro => cases hc
end
end Go.Proofs.Ytafnmkbehjbkdaa.M
