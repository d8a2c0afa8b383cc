/-
  The texts Vk.Abs, Vk.Eval, Vk.Rel, Vk.Base, Vk.Pure, Vk.Pure2, Vk.Pure3, Vk.Mem, Vk.Mem2, Vk.Mem3, Vk.Mem4, Vk.Mem5, Vk.Mem6, Vk.Mem7, Vk.Mem8, one behind another. No conditions.
-/
import Derived.WalkKit
set_option linter.unusedVariables false
set_option linter.unusedSimpArgs false
set_option linter.all false

namespace Hk
open Go
inductive Tok where
 | no | nil | own (id : Nat)
 deriving DecidableEq, Inhabited
inductive kR where
 | junk
 | bool (b : Bool)
 | int (k : IntKind) (n : Int)
 | str (s : List UInt8)
 | agg (cs : List kR)
 | tuple (vs : List kR)
 | slice (rows : List (List kR)) (tok : Tok)
 | pptr (cs : List kR)
 | ptr (id off : Nat)
 | nilptr
 | mslice (id off len sz : Nat)
 | vslice (id tot off len sz : Nat)
 | vptr (id tot off : Nat)
 | map (id : Nat)
 | nilmap
 | func (f : Nat) (first cap : List kR)
 | nilfunc
 | iface (t : Nat) (v : kR)
 | niliface
 deriving Inhabited
inductive lW where
 | free
 | gone
 | cells (cs : List kR)
 | front (n sz : Nat)
 | vec (tot sz : Nat) (cs : List kR)
 | map (es : List (kR × kR))
 deriving Inhabited
abbrev kT := List lW
inductive Ex where
 | normal | ret | exit (id : Nat) | pan (v : kR)
 deriving Inhabited
inductive n_ where
 | ret (v : kR) | pan (v : kR)
 deriving Inhabited
abbrev k9 := Nat → List kR → kT → Option (n_ × kT)
abbrev R := Ex × List kR × kT
inductive Tg where
 | indexByte
 deriving DecidableEq
structure Af where
 glob : Nat → Option (List kR) := fun _ => none
 esc : Nat → Bool := fun _ => false
 grow : Nat → Bool := fun _ => false
 pure : Nat → Bool := fun _ => false
 ext : Nat → Option Tg := fun _ => none
 pan : Nat → Bool := fun _ => false
 dfr : Nat → Bool := fun _ => false
 srt : Nat → Bool := fun _ => false
 srf : Nat → Option Nat := fun _ => none
 vec : Nat → Bool := fun _ => false
 frz : Nat → Bool := fun _ => false
 vecT : Nat → Nat → Bool := fun _ _ => false
 vmk : Nat → Bool := fun _ => false
 jt : Nat → Bool := fun _ => false
 sub : Nat → Bool := fun _ => false
 out : Nat → Bool := fun _ => false
 frr : Nat → Bool := fun _ => false
 rb : Nat → Bool := fun _ => false
 lkp : Nat → Bool := fun _ => false
 vlit : Nat → Bool := fun _ => false
def kR.cells : kR → List kR
 | .agg cs => cs
 | v => [v]
def AR : Value → kR
 | .bool b => .bool b
 | .int k n => .int k n
 | .string s => .str s.data.toList
 | .pointer none => .nilptr
 | .slice none 0 0 => .slice [] .nil
 | .map none => .nilmap
 | .nilFunc => .nilfunc
 | .nilIface => .niliface
 | _ => .junk
def ofConst : Value → kR
 | .agg cs => .agg (cs.toList.map AR)
 | .tuple cs => match cs.toList with | [] => .tuple [] | _ => .junk
 | v => AR v
def pZ (A : Af) (ρ : List kR) : Operand → kR
 | .tmp t => ρ.getD t .junk
 | .const v => ofConst v
 | .global g => match A.glob g with | some cs => .pptr cs | none => .junk
 | .func f => .func f [] []
def kR.tK : kR → Option kR
 | .bool b => some (.bool b)
 | .int k n => some (.int k n)
 | .str s => some (.str s)
 | .slice rows _ => some (.slice rows .no)
 | .pptr cs => some (.pptr cs)
 | .nilptr => some .nilptr
 | .nilmap => some .nilmap
 | .func f [] [] => some (.func f [] [])
 | .nilfunc => some .nilfunc
 | .niliface => some .niliface
 | _ => none
def mU : List kR → Option (List kR)
 | [] => some []
 | v :: r => match v.tK, mU r with
  | some x, some y => some (x :: y)
  | _, _ => none
def kR.oI : kR → Bool
 | .junk => true
 | _ => false
def kR.mC : kR → Bool
 | .junk | .agg _ | .tuple _ => false
 | _ => true
def rowsOf : Nat → Nat → List kR → List (List kR)
 | 0, _, _ => []
 | n + 1, sz, cs => cs.take sz :: rowsOf n sz (cs.drop sz)
def uI : kR → Option Nat
 | .ptr id _ => some id
 | .mslice id _ _ _ => some id
 | .vslice id _ _ _ _ => some id
 | .vptr id _ _ => some id
 | .map id => some id
 | .slice _ (.own id) => some id
 | _ => none
def kR.s5 (m : Nat) : kR → Bool
 | .agg _ => false
 | .tuple _ => false
 | .iface _ _ => false
 | .func _ first cap => first.isEmpty && cap.isEmpty
 | v => match uI v with | some r => decide (r < m) | none => true
def kR.rX (m : Nat) : kR → Bool
 | .agg cs => cs.all (kR.s5 m)
 | .iface _ v => v.s5 m
 | .func _ first cap => first.all (kR.s5 m) && cap.all (kR.s5 m)
 | v => v.s5 m
def kR.nM (m : Nat) (h : kT) : kR → kR
 | .slice rows (.own id) => bif decide (id < m) then .slice rows (.own id) else .slice rows .no
 | .ptr id off => bif decide (id < m) then .ptr id off else
   match h[id]? with
   | some (.cells cs) => match mU (cs.drop off) with
    | some row => .pptr row
    | none => .junk
   | _ => .junk
 | .mslice id off len sz => bif decide (id < m) then .mslice id off len sz else
   match h[id]? with
   | some (.cells cs) => match mU ((cs.drop off).take (len * sz)) with
    | some row => bif decide (off + len * sz ≤ cs.length) then .slice (rowsOf len sz row) .no else .junk
    | none => .junk
   | _ => .junk
 | .vslice id tot off len sz => bif decide (id < m) then .vslice id tot off len sz else
   match h[id]? with
   | some (.vec tot' _ cs) => match mU ((cs.drop off).take (len * sz)) with
    | some row => bif decide (tot = tot' ∧ off + len * sz ≤ cs.length) then .slice (rowsOf len sz row) .no else .junk
    | none => .junk
   | _ => .junk
 | v => bif v.rX m then v else .junk
def kR.oM (m : Nat) (h : kT) : kR → kR
 | .agg cs => .agg (cs.map (·.nM m h))
 | .tuple vs => .tuple (vs.map fun v => match v with | .agg cs => .agg (cs.map (·.nM m h)) | v => v.nM m h)
 | .iface t (.agg cs) => .iface t (.agg (cs.map (·.nM m h)))
 | .iface t v => .iface t (v.nM m h)
 | v => v.nM m h
def mP (m : Nat) (h : kT) : List kR → Option (List kR)
 | [] => some []
 | v :: r => bif (v.nM m h).mC then (match mP m h r with | some r' => some (v.nM m h :: r') | none => none) else none
def pA (m : Nat) (h : kT) : lW → Option lW
 | .cells cs => (mP m h cs).map .cells
 | .vec tot sz cs => (mP m h cs).map (.vec tot sz)
 | .map es => bif es.all (fun e => e.2.rX m) then some (.map es) else none
 | b => some b
def oA (m : Nat) (h : kT) : List lW → Option (List lW)
 | [] => some []
 | b :: r => match pA m h b, oA m h r with
  | some b', some r' => some (b' :: r')
  | _, _ => none
def mL (m : Nat) (h : kT) : Option kT := oA m h (h.take m)
def kR.rS : kR → kR
 | .slice rows _ => .slice rows .no
 | v => v
def kR.k8 : kR → kR
 | .agg cs => .agg (cs.map kR.rS)
 | .tuple vs => .tuple (vs.map fun v => match v with | .agg cs => .agg (cs.map kR.rS) | v => v.rS)
 | v => v.rS
def kZ (op : BinOp) (x y : kR) : Option kR :=
 match x, y with
 | .int k a, .int k' b =>
  match op with
  | .shl => if b < 0 then none else some (.int k (k.wrap (a * 2 ^ (min b.toNat k.bits))))
  | .shr => if b < 0 then none else some (.int k (a.fdiv (2 ^ (min b.toNat k.bits))))
  | _ => if k ≠ k' then none else
   match op with
   | .add => some (.int k (k.wrap (a + b)))
   | .sub => some (.int k (k.wrap (a - b)))
   | .mul => some (.int k (k.wrap (a * b)))
   | .quo => if b = 0 then none else some (.int k (k.wrap (a.tdiv b)))
   | .rem => if b = 0 then none else some (.int k (a.tmod b))
   | .and => some (.int k (k.wrap (BitVec.ofInt k.bits a &&& BitVec.ofInt k.bits b).toNat))
   | .or => some (.int k (k.wrap (BitVec.ofInt k.bits a ||| BitVec.ofInt k.bits b).toNat))
   | .xor => some (.int k (k.wrap (BitVec.ofInt k.bits a ^^^ BitVec.ofInt k.bits b).toNat))
   | .andNot => some (.int k (k.wrap (BitVec.ofInt k.bits a &&& ~~~ BitVec.ofInt k.bits b).toNat))
   | .eql => some (.bool (a == b))
   | .neq => some (.bool (a != b))
   | .lss => some (.bool (a < b))
   | .leq => some (.bool (a ≤ b))
   | .gtr => some (.bool (a > b))
   | .geq => some (.bool (a ≥ b))
   | _ => none
 | .str a, .str b =>
  match op with
  | .add => if a.length + b.length ≤ 4611686018427387904 then some (.str (a ++ b)) else none
  | .eql => some (.bool (a == b))
  | .neq => some (.bool (!(a == b)))
  | .lss => some (.bool (Op.bytesLess a b))
  | .leq => some (.bool (Op.bytesLess a b || a == b))
  | .gtr => some (.bool (!(Op.bytesLess a b || a == b)))
  | .geq => some (.bool (!(Op.bytesLess a b)))
  | _ => none
 | _, _ => none
def Fh (op : BinOp) (x y : kR) : Option kR :=
 match op, x, y with
 | .eql, .bool a, .bool b => some (.bool (a == b))
 | .neq, .bool a, .bool b => some (.bool (!(a == b)))
 | _, _, _ => none
def EB : kR → kR → Option Bool
 | .int k a, .int k' b => if k = k' then some (a == b) else none
 | .bool a, .bool b => some (a == b)
 | .str a, .str b => some (a == b)
 | _, _ => none
inductive Kd where
 | b | i | s
 deriving DecidableEq
def xE : Kd → kR → kR → Option Bool
 | .i, .int k a, .int k' b => if k = k' then some (a == b) else none
 | .b, .bool a, .bool b => some (a == b)
 | .s, .str a, .str b => some (a == b)
 | _, _, _ => none
def oD : List Kd → List kR → List kR → Option Bool
 | [], [], [] => some true
 | k :: ks, x :: xs, y :: ys => match xE k x y, oD ks xs ys with
  | some a, some b => some (a && b)
  | _, _ => none
 | _, _, _ => none
def o_ (ks : List Kd) : kR → kR → Option Bool
 | .agg xs, .agg ys => oD ks xs ys
 | _, _ => none
def yF (op : UnOp) (x : kR) : Option kR :=
 match op, x with
 | .neg, .int k n => some (.int k (k.wrap (0 - n)))
 | .xor, .int k n => some (.int k (k.wrap (BitVec.ofInt k.bits (if k.signed then -1 else k.max) ^^^ BitVec.ofInt k.bits n).toNat))
 | .not, .bool b => some (.bool !b)
 | _, _ => none
def Az (k : IntKind) : kR → Option kR
 | .int _ n => some (.int k (k.wrap n))
 | _ => none
def lV (c a b : kR) : Option kR :=
 match c with
 | .bool g => some (bif g then a else b)
 | _ => none
def apart (isAgg : Bool) (n : Nat) (cs : List kR) (off : Nat) : Option kR :=
 bif isAgg then (if off + n ≤ cs.length then some (.agg ((cs.drop off).take n)) else none) else cs[off]?
def AA (isAgg : Bool) (n off : Nat) : kR → Option kR
 | .agg cs => apart isAgg n cs off
 | _ => none
def mF (i : Nat) : kR → Option kR
 | .tuple vs => vs[i]?
 | _ => none
def agL : kR → Option Int
 | .int _ n => some n
 | _ => none
def rM (x i : kR) : Option kR :=
 match x, i with
 | .str s, .int _ n => if 0 ≤ n then (s[n.toNat]?).map fun b => .int .u8 b.toNat else none
 | _, _ => none
def Dt (isAgg : Bool) (len sz : Nat) (x i : kR) : Option kR :=
 match x, i with
 | .agg cs, .int _ n => if 0 ≤ n ∧ n < len then apart isAgg sz cs (n.toNat * sz) else none
 | _, _ => none
def kY (sz : Nat) (x i : kR) : Option kR :=
 match x, i with
 | .slice rows _, .int _ n =>
  if 0 ≤ n then match rows[n.toNat]? with
   | some row => if row.length = sz then some (.pptr row) else none
   | none => none
  else none
 | .mslice id off len sz', .int _ n => if 0 ≤ n ∧ n < len ∧ sz' = sz then some (.ptr id (off + n.toNat * sz)) else none
 | .vslice id tot off len sz', .int _ n => if 0 ≤ n ∧ n < len ∧ sz' = sz then some (.vptr id tot (off + n.toNat * sz)) else none
 | _, _ => none
def wO (len sz : Nat) (x i : kR) : Option kR :=
 match x, i with
 | .ptr id off, .int _ n => if 0 ≤ n ∧ n < len then some (.ptr id (off + n.toNat * sz)) else none
 | .pptr cs, .int _ n => if 0 ≤ n ∧ n < len then some (.pptr (cs.drop (n.toNat * sz))) else none
 | _, _ => none
def kU (off : Nat) : kR → Option kR
 | .ptr id o => some (.ptr id (o + off))
 | .vptr id tot o => some (.vptr id tot (o + off))
 | .pptr cs => some (.pptr (cs.drop off))
 | _ => none
def oX (x : Option kR) (dflt : Nat) : Option Nat :=
 match x with
 | none => some dflt
 | some (.int _ n) => if 0 ≤ n then some n.toNat else none
 | _ => none
def rN (x : kR) (lo hi : Option kR) : Option kR :=
 match x with
 | .str s => match oX lo 0, oX hi s.length with
  | some l, some u => if l ≤ u ∧ u ≤ s.length then some (.str ((s.drop l).take (u - l))) else none
  | _, _ => none
 | _ => none
def nK (sz : Nat) (x : kR) (lo hi : Option kR) : Option kR :=
 match x with
 | .slice rows _ => match oX lo 0, oX hi rows.length with
  | some l, some u => if l ≤ u ∧ u ≤ rows.length ∧ (rows.all fun r => r.length == sz) then some (.slice ((rows.drop l).take (u - l)) .no) else none
  | _, _ => none
 | .mslice id off len sz' => match oX lo 0, oX hi len with
  | some l, some u => if l ≤ u ∧ u ≤ len ∧ sz' = sz then some (.mslice id (off + l * sz) (u - l) sz) else none
  | _, _ => none
 | .vslice id tot off len sz' => match oX lo 0, oX hi len with
  | some l, some u => if l ≤ u ∧ u ≤ len ∧ sz' = sz then (if l = 0 ∨ l < u then some (.vslice id tot (off + l * sz) (u - l) sz) else some (.slice [] .no)) else none
  | _, _ => none
 | _ => none
def ab2 (n sz : Nat) (x : kR) (lo hi : Option kR) : Option kR :=
 match x, oX lo 0, oX hi n with
 | .ptr id off, some l, some u => if l ≤ u ∧ u ≤ n then some (.mslice id (off + l * sz) (u - l) sz) else none
 | .pptr cs, some l, some u => if l ≤ u ∧ u ≤ n ∧ n * sz ≤ cs.length then some (.slice (rowsOf (u - l) sz (cs.drop (l * sz))) .no) else none
 | _, _, _ => none
def CN : kR → Option kR
 | .str s => some (.int .i64 s.length)
 | _ => none
def lN : kR → Option kR
 | .slice rows _ => some (.int .i64 rows.length)
 | .mslice _ _ len _ => some (.int .i64 len)
 | .vslice _ _ _ len _ => some (.int .i64 len)
 | _ => none
def Ah (x y : kR) : Option kR :=
 match x, y with
 | .int k a, .int _ b => some (.int k (if b > a then b else a))
 | _, _ => none
def wR (x y : kR) : Option kR :=
 match x, y with
 | .int k a, .int _ b => some (.int k (if b < a then b else a))
 | _, _ => none
def nJ (h : kT) (id : Nat) : Option (List kR) :=
 match h[id]? with
 | some (.cells cs) => some cs
 | _ => none
def nA (h : kT) (id tot : Nat) : Option (Nat × List kR) :=
 match h[id]? with
 | some (.vec tot' sz cs) => if tot' = tot then some (sz, cs) else none
 | _ => none
def kV (isAgg : Bool) (n : Nat) (h : kT) : kR → Option kR
 | .pptr cs => apart isAgg n cs 0
 | .ptr id off => match nJ h id with
  | some cs => apart isAgg n cs off
  | none => none
 | .vptr id tot off => match nA h id tot with
  | some x => apart isAgg n x.2 off
  | none => none
 | _ => none
def putCells (cs : List kR) (off : Nat) (vs : List kR) : List kR := cs.take off ++ vs ++ cs.drop (off + vs.length)
def kR.isNil : kR → Bool
 | .slice [] .nil => true
 | _ => false
def sJ (h : kT) (o v : kR) : kR := bif v.isNil then (match o with
 | .slice [] (.own id) => (match h[id]? with
  | some (.front 0 0) => .slice [] (.own id)
  | _ => v)
 | _ => v) else v
def pV (h : kT) : List kR → List kR → List kR
 | o :: os, v :: vs => sJ h o v :: pV h os vs
 | _, vs => vs
def lU (n : Nat) (h : kT) (p v : kR) : Option kT :=
 match p with
 | .ptr id off => match nJ h id with
  | some cs =>
   let vs := v.cells
   if vs.length = n ∧ off + n ≤ cs.length ∧ vs.all kR.mC then some (h.set id (.cells (putCells cs off (pV h (cs.drop off) vs)))) else none
  | none => none
 | .vptr id tot off => match nA h id tot with
  | some x =>
   let vs := v.cells
   if vs.length = n ∧ off + n ≤ x.2.length ∧ vs.all kR.mC then some (h.set id (.vec tot x.1 (putCells x.2 off vs))) else none
  | none => none
 | _ => none
def mV : Nat → List kR → List kR × kT
 | _, [] => ([], [])
 | id, .slice [] .nil :: r => let (a, b) := mV (id + 1) r; (.slice [] (.own id) :: a, .front 0 0 :: b)
 | id, v :: r => let (a, b) := mV id r; (v :: a, b)
def nG (n : Nat) (h : kT) (v : kR) : Option (kR × kT) :=
 let vs := v.cells
 if vs.length = n ∧ vs.all kR.mC then
  let (cs, fs) := mV (h.length + 1) vs
  some (.ptr h.length 0, h ++ (.cells cs :: fs))
 else none
def tA (sz : Nat) (h : kT) : kR → Option (List (List kR))
 | .slice rows _ => if rows.all fun r => r.length == sz then some rows else none
 | .mslice id off len sz' => match nJ h id with
  | some cs => if sz' = sz ∧ off + len * sz ≤ cs.length then (match mU ((cs.drop off).take (len * sz)) with | some row => some (rowsOf len sz row) | none => none) else none
  | none => none
 | .vslice id tot off len sz' => match nA h id tot with
  | some x => if sz' = sz ∧ off + len * sz ≤ x.2.length then (match mU ((x.2.drop off).take (len * sz)) with | some row => some (rowsOf len sz row) | none => none) else none
  | none => none
 | _ => none
def QG (sz : Nat) (h : kT) : kR → Option (List (List kR))
 | .vslice id tot off len sz' => match nA h id tot with
  | some x => if sz' = sz ∧ off + len * sz ≤ x.2.length then some (rowsOf len sz ((x.2.drop off).take (len * sz))) else none
  | none => none
 | _ => none
def wS (sz : Nat) (h : kT) (x : kR) : Option (List (List kR)) := match tA sz h x with
 | some r => some r
 | none => QG sz h x
def nQ (sz bytes : Nat) (h : kT) (s x : kR) : Option (kR × kT) :=
 match s, tA sz h x with
 | .slice rows (.own id), some new =>
  match h[id]? with
  | some (.front n sz') =>
   if rows.length = n ∧ (sz' = sz ∨ n = 0 ∧ sz' = 0) ∧ (n + new.length) * bytes ≤ 140737488355328 ∧ n + new.length ≤ 140737488355328
   then (if new.length = 0 then some (.slice rows (.own id), h) else some (.slice (rows ++ new) (.own id), h.set id (.front (n + new.length) sz))) else none
  | _ => none
 | .slice [] .nil, some new =>
  if new.length = 0 then some (.slice [] .nil, h) else
  if new.length * bytes ≤ 140737488355328 ∧ new.length ≤ 140737488355328 then some (.slice new (.own h.length), h ++ [.front new.length sz]) else none
 | _, _ => none
def mY (sz bytes : Nat) (h : kT) (s x : kR) : Option (kR × kT) :=
 match s, wS sz h x with
 | .slice [] (.own id), some new =>
  match h[id]? with
  | some (.front 0 0) =>
   if new.length * bytes ≤ 140737488355328 ∧ new.length ≤ 140737488355328
   then (if new.length = 0 then some (.slice [] (.own id), h) else some (.vslice id new.length 0 new.length sz, h.set id (.vec new.length sz new.flatten))) else none
  | _ => none
 | .slice [] .nil, some new =>
  if new.length = 0 then some (.slice [] .nil, h) else
  if new.length * bytes ≤ 140737488355328 ∧ new.length ≤ 140737488355328 then some (.vslice h.length new.length 0 new.length sz, h ++ [.vec new.length sz new.flatten]) else none
 | .vslice id tot 0 n sz', some new =>
  match nA h id tot with
  | some x =>
   if sz' = sz ∧ x.1 = sz ∧ (n + new.length) * bytes ≤ 140737488355328 ∧ n + new.length ≤ 140737488355328
   then (if new.length = 0 then some (.vslice id tot 0 n sz, h)
    else if n + new.length ≤ tot then some (.vslice id tot 0 (n + new.length) sz, h.set id (.vec tot sz (putCells x.2 (n * sz) new.flatten)))
    else some (.vslice id (n + new.length) 0 (n + new.length) sz, h.set id (.vec (n + new.length) sz (x.2.take (n * sz) ++ new.flatten)))) else none
  | none => none
 | _, _ => none
def rC (h : kT) (v : kR) : Option (kR × kT) :=
 match v with
 | .vslice id tot off len sz => match nA h id tot with
  | some x => match mU ((x.2.drop off).take (len * sz)) with
   | some row => if off + len * sz ≤ x.2.length then some (.slice (rowsOf len sz row) .no, h.set id .gone) else none
   | none => none
  | none => none
 | v => some (v, h)
def B5 (sz : Nat) (zero : List kR) (h : kT) (x : kR) : Option kT :=
 match x with
 | .slice [] _ => some h
 | .vslice id tot off len sz' => if len = 0 then some h else match nA h id tot with
  | some x => if sz' = sz ∧ zero.length = sz ∧ zero.all kR.mC ∧ off + len * sz ≤ x.2.length then some (h.set id (.vec tot x.1 (putCells x.2 off (List.replicate len zero).flatten))) else none
  | none => none
 | _ => none
def nO (zero : List kR) (places : List (Nat × Nat)) (parts : List (Nat × kR)) : Option kR :=
 match parts with
 | [] => some (.agg zero)
 | (i, v) :: rest => match places[i]? with
  | some (off, n) => if v.oI = false ∧ v.cells.length = n ∧ off + n ≤ zero.length then nO (putCells zero off v.cells) places rest else none
  | none => none
def oL (len sz : Nat) (zero : List kR) (parts : List (Nat × kR)) : Option (List (List kR)) :=
 match nO (List.replicate len zero).flatten ((List.range len).map fun i => (i * sz, sz)) parts with
 | some (.agg cs) => match mU cs with
  | some row => if zero.length = sz ∧ cs.all kR.mC then some (rowsOf len sz row) else none
  | none => none
 | _ => none
def lP (len sz : Nat) (zero : List kR) (parts : List (Nat × kR)) (h : kT) : Option (kR × kT) :=
 match oL len sz zero parts with
 | some rows => some (.slice rows (.own h.length), h ++ [.front len sz])
 | none => none
def CL (len sz : Nat) (zero : List kR) (parts : List (Nat × kR)) (h : kT) : Option (kR × kT) :=
 match nO (List.replicate len zero).flatten ((List.range len).map fun i => (i * sz, sz)) parts with
 | some (.agg cs) => if zero.length = sz ∧ cs.all kR.mC then some (.vslice h.length len 0 len sz, h ++ [.vec len sz cs]) else none
 | _ => none
def pY (len sz : Nat) (zero : List kR) (parts : List (Nat × kR)) (h : kT) : Option (kR × kT) :=
 match oL len sz zero parts with
 | some rows => some (.vslice h.length len 0 len sz, h ++ [.vec len sz rows.flatten])
 | none => CL len sz zero parts h
def pQ (id len sz : Nat) (zero : List kR) (parts : List (Nat × kR)) (h : kT) : Option (kR × kT) :=
 match h[id]?, oL len sz zero parts with
 | some .free, some rows => some (.slice rows (.own id), h.set id (.front len sz))
 | _, _ => none
def pD (sz bytes : Nat) (zero : List kR) (len : kR) (h : kT) : Option (kR × kT) :=
 match len with
 | .int _ n => if 0 ≤ n ∧ n.toNat * bytes ≤ 140737488355328 ∧ n ≤ 140737488355328
   then some (.mslice h.length 0 n.toNat sz, h ++ [.cells (List.replicate n.toNat zero).flatten]) else none
 | _ => none
def oK (sz bytes : Nat) (zero : List kR) (len : kR) (h : kT) : Option (kR × kT) :=
 match len with
 | .int _ n => if 0 ≤ n ∧ n.toNat * bytes ≤ 140737488355328 ∧ n ≤ 140737488355328
   then some (.vslice h.length n.toNat 0 n.toNat sz, h ++ [.vec n.toNat sz (List.replicate n.toNat zero).flatten]) else none
 | _ => none
def LW (h : kT) (d s : kR) : Option (kR × kT) :=
 match d, s with
 | .vslice id tot off len 1, .str bs => match nA h id tot with
  | some x => if off + len ≤ x.2.length ∧ x.1 = 1 then some (.int .i64 (min bs.length len : Nat), h.set id (.vec tot 1 (putCells x.2 off ((bs.take len).map fun b => .int .u8 b.toNat)))) else none
  | none => none
 | _, _ => none
def bytesOf : List (List kR) → Option (List UInt8)
 | [] => some []
 | [.int .u8 n] :: r => match bytesOf r with
  | some bs => some (UInt8.ofNat n.toNat :: bs)
  | none => none
 | _ => none
def uN (x : kR) : Option kR :=
 match x with
 | .slice rows _ => (bytesOf rows).map .str
 | _ => none
def Be (h : kT) (x : kR) : Option kR :=
 match x with
 | .vslice id tot off len sz => match tA 1 h (.vslice id tot off len sz) with
  | some rows => (bytesOf rows).map .str
  | none => none
 | x => uN x
def uO : List UInt8 → UInt8 → Int
 | [], _ => -1
 | b :: l, c => if b == c then 0 else if uO l c == -1 then -1 else uO l c + 1
def adB : Tg → List kR → Option kR
 | .indexByte, [.str s, .int .u8 c] => some (.int .i64 (uO s (UInt8.ofNat c.toNat)))
 | _, _ => none
def oG : TypeDesc → kR → Bool
 | .int k, .int k' _ => k == k'
 | .string, .str _ => true
 | .bool, .bool _ => true
 | _, _ => false
def B7 : kR → Bool
 | .int _ _ | .str _ | .bool _ => true
 | _ => false
def AB (k : kR) : List (kR × kR) → Option (Option kR)
 | [] => some none
 | (k', v) :: r => match EB k k' with
  | some true => some (some v)
  | some false => AB k r
  | none => none
def uX (k v : kR) : List (kR × kR) → List (kR × kR)
 | [] => [(k, v)]
 | (k', v') :: r => match EB k k' with
  | some true => (k', v) :: r
  | _ => (k', v') :: uX k v r
def uW (k : kR) : List (kR × kR) → List (kR × kR)
 | [] => []
 | (k', v') :: r => match EB k k' with
  | some true => r
  | _ => (k', v') :: uW k r
def AJ (h : kT) : kR → Option (List (kR × kR))
 | .nilmap => some []
 | .map id => match h[id]? with
  | some (.map es) => some es
  | _ => none
 | _ => none
def zG (zero : kR) (ok : Bool) (h : kT) (m k : kR) : Option kR :=
 match AJ h m with
 | some es => match AB k es with
  | some (some v) => some (bif ok then .tuple [v, .bool true] else v)
  | some none => some (bif ok then .tuple [zero, .bool false] else zero)
  | none => none
 | none => none
def xF (h : kT) (m k v : kR) : Option kT :=
 match m with
 | .map id => match h[id]? with
  | some (.map es) => match AB k es with
   | some _ => some (h.set id (.map (uX k v es)))
   | none => none
  | _ => none
 | _ => none
def Bg (h : kT) (m k : kR) : Option kT :=
 match m with
 | .nilmap => if B7 k then some h else none
 | .map id => match h[id]? with
  | some (.map es) => if B7 k ∧ (AB k es).isSome then some (h.set id (.map (uW k es))) else none
  | _ => none
 | _ => none
def Ds (h : kT) (m : kR) : Option kT :=
 match m with
 | .nilmap => some h
 | .map id => match h[id]? with
  | some (.map _) => some (h.set id (.map []))
  | _ => none
 | _ => none
def wP : List (kR × kR) → Option (List Int)
 | [] => some []
 | (.int .i64 n, .int .i64 m) :: r => if (Lit.int .i64 n).wf = true ∧ (Lit.int .i64 m).wf = true then (wP r).map (n :: ·) else none
 | _ => none
def vD (h : kT) (m : kR) : Option kR :=
 match m with
 | .map id => match h[id]? with
  | some (.map es) => match wP es with
   | some ns => if ns.length ≤ 1048576 then some (.slice ((ns.mergeSort fun x y => decide (x ≤ y)).map fun n => [.int .i64 n]) .no) else none
   | none => none
  | _ => none
 | _ => none
def R_ (args : List kR) (h : kT) : Option (n_ × kT) :=
 match args with
 | [m] => (vD h m).map fun v => (.ret v, h)
 | _ => none
def vQ (rows : List (List kR)) (x : Int) : Option Int :=
 if 0 ≤ x then match rows[x.toNat]? with
  | some (.int .i64 a :: _) => some a
  | _ => none
 else none
def p6 (key : Int → Int) (x y : Int) : Bool := decide (key x < key y) || (decide (key x = key y) && decide (x ≤ y))
def Ml (le : Int → Int → Bool) (x : Int) : List Int → List Int
 | [] => [x]
 | y :: r => bif le x y then x :: y :: r else y :: Ml le x r
def y_ (le : Int → Int → Bool) : List Int → List Int
 | [] => []
 | x :: r => Ml le x (y_ le r)
def D9 : List kR → Option (List Int)
 | [] => some []
 | .int .i64 n :: r => (D9 r).map (n :: ·)
 | _ :: _ => none
def Eu (g : Nat) (args : List kR) (h : kT) : Option (n_ × kT) :=
 match args with
 | [.slice [] _, .func g' [] _] => if g' = g then some (.ret (.tuple []), h) else none
 | [.vslice id tot 0 n 1, .func g' [] [.ptr pid po]] =>
  match nA h id tot, h[pid]? with
  | some x, some (.cells cs) => match cs[po]?, D9 (x.2.take n) with
   | some (.slice rows _), some xs =>
    if g' = g ∧ pid ≠ id ∧ x.1 = 1 ∧ 0 < n ∧ n ≤ x.2.length ∧ n ≤ 1048576 ∧ (rows.all fun r => r.length == 2) = true ∧ (xs.all fun x => (vQ rows x).isSome) = true
    then some (.ret (.tuple []), h.set id (.vec tot 1 (putCells x.2 0 ((y_ (p6 fun x => (vQ rows x).getD 0) xs).map (.int .i64))))) else none
   | _, _ => none
  | _, _ => none
 | _ => none
def ae8 (h : kT) (m : kR) : Option kR :=
 match AJ h m with
 | some es => some (.int .i64 es.length)
 | none => none
end Hk


namespace Hk
open Go
def Ai (t : Nat) : Nat := 1 <<< t
def RP (o : Oper) : Nat := o.op.operands.toList.foldl (fun m x => match x with | .tmp t => m ||| Ai t | _ => m) 0
def Xx (o : Oper) : Nat := match o.dst with | some d => Ai d | none => 0
def Wr (full : Nat) : List Oper → Nat × Nat → Nat × Nat
 | [], a => a
 | o :: r, (u, d) => Wr full r (u ||| (RP o &&& (full ^^^ d)), d ||| Xx o)
def C3 (id : Nat) : Code → Bool
 | .exit j => j == id
 | .seq a b | .cond _ a b => C3 id a || C3 id b
 | .block _ c | .loop c | .scope c => C3 id c
 | _ => false
def leaves : List Nat → Code → Bool
 | ids, .exit j => !(ids.contains j)
 | ids, .seq a b | ids, .cond _ a b => leaves ids a || leaves ids b
 | ids, .block id c => leaves (id :: ids) c
 | ids, .loop c => leaves ids c
 | ids, .scope c => leaves ids c
 | _, .skip | _, .region _ _ _ | _, .label _ => false
 | _, _ => true
def RO (o : Oper) : Bool := match o.op with | .panic _ => true | _ => false
def tI : Code → Bool
 | .skip => true
 | .region _ ops _ => !(ops.toList.any RO)
 | .seq a b => tI a && tI b
 | .cond _ a b => tI a || tI b
 | .block id c => tI c || C3 id c
 | .scope c => tI c
 | .label _ => true
 | _ => false
def x9 (id : Nat) : Code → Nat
 | .exit j => bif j == id then 1 else 0
 | .seq a b => x9 id a + x9 id b
 | .cond _ a b => bif tI a && tI b then (bif leaves [] a || leaves [] b then 1 else 0) else x9 id a + x9 id b
 | .block j c => bif decide (2 ≤ x9 j c + bif tI c then 1 else 0) then 1 else x9 id c
 | .loop _ => 1
 | .scope c => x9 id c
 | _ => 0
def ud (full : Nat) : Code → Nat × Nat
 | .skip => (0, 0)
 | .region _ ops _ => Wr full ops.toList (0, 0)
 | .seq a b => let (u, d) := ud full a; let (u', d') := ud full b; (u ||| (u' &&& (full ^^^ d)), d ||| d')
 | .cond c a b => let (u, d) := ud full a; let (u', d') := ud full b
  ((match c with | .tmp t => Ai t | _ => 0) ||| u ||| u', (bif tI a then d else full) &&& (bif tI b then d' else full))
 | .block id c => let (u, d) := ud full c; (u, bif C3 id c then 0 else d)
 | .loop c => ((ud full c).1, full)
 | .scope c => ud full c
 | .label _ => (0, 0)
 | _ => (0, full)
def ue (full : Nat) (c : Code) : Nat := (ud full c).1
def sZ (L : Nat) : Nat → List kR → List kR
 | _, [] => []
 | i, v :: r => bif L.testBit i then v :: sZ L (i + 1) r else sZ L (i + 1) r
def pack (L : Nat) (ρ : List kR) : List kR := sZ L 0 ρ
def unpackFrom (L : Nat) (x : List kR) : Nat → Nat → Nat → List kR
 | 0, _, _ => []
 | n + 1, i, j => bif L.testBit i then x.getD j .junk :: unpackFrom L x n (i + 1) (j + 1) else .junk :: unpackFrom L x n (i + 1) j
def unpack (n L : Nat) (x : List kR) : List kR := unpackFrom L x n 0 0
def Ex.lY (e : Ex) (kn : Option R) (ke : Ex → Option R) : Option R :=
 match e with
 | .normal => kn
 | e => ke e
def Ex.sO (e : Ex) (kn : Option R) : Option R :=
 match e with
 | .normal => kn
 | _ => none
def Ex.inBlock (id : Nat) (e : Ex) (kn : Option R) (ke : Ex → Option R) : Option R :=
 match e with
 | .normal => kn
 | .exit j => bif j == id then kn else ke (.exit j)
 | e => ke e
def k_ (x : Option (n_ × kT)) (kv kp : kR → kT → Option R) : Option R :=
 x.bind fun r => match r.1 with
  | .ret v => kv v r.2
  | .pan v => kp v r.2
def lE (x : Option (kR × kT)) (k : kR → kT → Option R) : Option R := x.bind fun r => k r.1 r.2
def lG (v : kR) (t e : Option R) : Option R :=
 match v with
 | .bool b => bif b then t else e
 | _ => none
def p9 (P : Program) (t : TypeId) : Option Bool :=
 match P.underlying t with
 | some (.struct _) | some (.array _ _) => some true
 | some _ => some false
 | none => none
def nY (P : Program) (t : TypeId) : Option Nat := (P.info? t).map (·.size)
def xZ (P : Program) (t : TypeId) : Option Nat := (P.info? t).map (·.bytes)
def qH (P : Program) (t : TypeId) : Option kR := (P.info? t).bind fun i => i.zero.map ofConst
def yM (P : Program) (eqT : TypeId → Option (List Kd)) : List Field → Nat → Option (List Kd)
 | [], _ => some []
 | f :: r, off => bif f.name == "_" || f.offset != off then none else match eqT f.type with
  | some ks => bif nY P f.type == some ks.length && ks.length != 0 then match yM P eqT r (off + ks.length) with
    | some l => some (ks ++ l)
    | none => none
   else none
  | none => none
def tU (P : Program) : Nat → TypeId → Option (List Kd)
 | 0, _ => none
 | d + 1, t => match P.underlying t with
  | some .bool => some [.b]
  | some (.int _) => some [.i]
  | some .string => some [.s]
  | some (.struct fs) => bif P.stoodInHeld t then none else yM P (tU P d) fs.toList 0
  | _ => none
def CU (P : Program) (t : TypeId) : Option (List Kd) :=
 match tU P 12 t with
 | some ks => bif P.eqGuardType P.depth t then none else some ks
 | none => none
def yU : Operand → Bool
 | .const (.slice none 0 0) => true
 | _ => false
def o9 (o : Oper) : Bool :=
 match o.op with
 | .alloc _ | .box .. | .buildSlice .. | .makeSlice .. | .makeMap .. | .store .. | .mapUpdate .. | .insert .. | .panic _ => true
 | .assign x => yU x
 | .call c => match c.callee with
  | .builtin .len | .builtin .cap | .builtin .min | .builtin .max => false
  | _ => true
 | _ => false
def r5 (o : Oper) : Option Operand :=
 match o.op with
 | .load _ a => some a
 | .lookup _ m _ _ => some m
 | _ => none
def FG : List Oper → List Nat → List Nat
 | [], acc => acc
 | o :: r, acc => FG r (acc ++ [o.after.toList.foldl (fun m e => bif Region.binds .any e then m ||| Ai e.on ||| acc.getD e.on 0 else m) 0])
def G8 (ops : List Oper) : List Nat := FG ops []
def U0 (a b : Nat) : Bool := (a &&& b) == a
def JA (ok : Nat → Bool) (cl : List Nat) (done : Nat) : List Nat → Option Nat
 | [] => none
 | i :: r => bif !(done.testBit i) && U0 (cl.getD i 0) done && ok i then some i else JA ok cl done r
structure Item where
 i : Nat
 o : Oper
 locks : List Nat
 rsv : Option Nat := none
 hid : Bool := false
def qL (o : Oper) : Bool := o.guard.isNone && match o.op with | .alloc _ | .box .. | .buildSlice .. => true | _ => false
def tX (o : Oper) : Bool := o.guard.isNone && match o.op with | .call c => (match c.callee with | .value _ => true | _ => false) | _ => false
def Ws (cl : List Nat) (i j : Nat) : Bool := (i != j) && !((cl.getD i 0).testBit j) && !((cl.getD j 0).testBit i)
def UK (f : Oper → Bool) (ops : List Oper) (i : Nat) : Bool := match ops[i]? with | some o => f o | none => false
def FQ (ops : List Oper) (cl : List Nat) : List Nat :=
 (List.range ops.length).filter fun i => UK qL ops i && (List.range ops.length).any fun j => UK o9 ops j && Ws cl i j
def EY : List Nat → Nat → Nat → Option Nat
 | [], _, _ => none
 | a :: r, i, k => bif a == i then some k else EY r i (k + 1)
def yP (ops : List Oper) (cl fl : List Nat) : List Nat → List Nat → List Item
 | [], _ => []
 | i :: r, before => match ops[i]? with
  | some o =>
   {i, o, locks := bif o9 o then before.filter (fun p => !((cl.getD i 0).testBit p) && match ops[p]? with | some q => (r5 q).isSome | none => false) else [],
    rsv := EY fl i 0, hid := tX o && fl.any (Ws cl i) } ::
    yP ops cl fl r (before ++ [i])
  | none => []
def uT (o : Oper) : List Tmp := o.op.operands.toList.filterMap fun x => match x with | .tmp t => some t | _ => none
def XG (ops : List Oper) (o : Oper) : Option Tmp := match o.guard with
 | some (j, _) => (ops[j]?).bind (·.dst)
 | none => none
def x4 (ops : List Oper) (o : Oper) : List Tmp := uT o ++ (XG ops o).toList
def RM (d : Option Tmp) (ts : List Tmp) : Bool := match d with
 | some d => !(ts.contains d)
 | none => true
def IN (ops : List Oper) (x y : Oper) : Bool :=
 RM x.dst (x4 ops y) && RM y.dst (x4 ops x) && RM x.dst y.dst.toList
def indep (ops : List Oper) (p it : Item) : Bool :=
 IN ops p.o it.o && match p.rsv, it.rsv with
 | some a, some b => a != b
 | some _, none => bif it.hid then true else !(o9 it.o) && (r5 it.o).isNone
 | none, some _ => bif p.hid then p.locks.isEmpty else !(o9 p.o) && p.locks.isEmpty
 | none, none => bif p.hid then p.locks.isEmpty && (!it.hid && (!(o9 it.o) && (r5 it.o).isNone))
   else !(o9 p.o) && p.locks.isEmpty && (!((r5 p.o).isSome) || !(o9 it.o) || it.locks.contains p.i)
def Gj (ops : List Oper) (cl : List Nat) (p it : Item) : Bool :=
 (p.i != it.i) && !((cl.getD p.i 0).testBit it.i) && ((cl.getD it.i 0).testBit p.i || indep ops p it)
def zW (ops : List Oper) (cl : List Nat) : List Item → Bool
 | [] => true
 | p :: r => r.all (Gj ops cl p) && zW ops cl r
def IT (ops : List Oper) : Bool :=
 (ops.zipIdx).all fun (o, i) => o.after.toList.all fun e => !(Region.binds .any e) || decide (e.on < i)
def ahN (ops : List Oper) (it : Item) : Option Oper := ops[it.i]?
def EX (ops : List Oper) (cl fl : List Nat) (n : Nat) : Nat → Nat → List Nat
 | 0, _ => []
 | fuel + 1, done =>
  let light (i : Nat) : Bool := match ops[i]? with | some o => !(o9 o) | none => false
  match JA light cl done (List.range n) with
  | some i => i :: EX ops cl fl n fuel (done ||| Ai i)
  | none => match JA (fun i => fl.contains i) cl done (List.range n) with
   | some i => i :: EX ops cl fl n fuel (done ||| Ai i)
   | none => match JA (fun _ => true) cl done (List.range n) with
    | some i => i :: EX ops cl fl n fuel (done ||| Ai i)
    | none => []
def N7 (ops : List Oper) : List Nat := EX ops (G8 ops) (FQ ops (G8 ops)) ops.length ops.length 0
def zK (ops : List Oper) : Option (List Item) :=
 let items := yP ops (G8 ops) (FQ ops (G8 ops)) (N7 ops) []
 bif zW ops (G8 ops) items && IT ops && (items.length == ops.length) && (List.range ops.length).all (fun i => items.any fun it => it.i == i) then some items else none
def pF (ops : List Oper) : List Item := ops.zipIdx.map fun (o, i) => { i, o, locks := [] }
def wM : kR → Option Nat
 | .ptr id _ => some id
 | .vptr id _ _ => some id
 | .map id => some id
 | _ => none
def mS (locks : List Nat) (seen : List kR) : List Nat := locks.filterMap fun j => wM (seen.getD j .junk)
def sW (h : kT) (id : Nat) : kT :=
 match h[id]? with
 | some (.cells _) | some (.map _) | some (.vec _ _ _) => h.set id .gone
 | _ => h
def qE (h : kT) (r : kT) (id : Nat) : kT :=
 match h[id]? with
 | some (.cells cs) => r.set id (.cells cs)
 | some (.vec tot sz cs) => r.set id (.vec tot sz cs)
 | some (.map es) => r.set id (.map es)
 | _ => r
def tN (ids : List Nat) (h : kT) : kT := ids.foldl sW h
def nT (ids : List Nat) (h h' : kT) : kT := ids.foldl (qE h) h'
def xH (t : Nat) (z : kR) : kR → Option kR
 | .iface t' w => some (bif t' == t then .tuple [w, .bool true] else .tuple [z, .bool false])
 | .niliface => some (.tuple [z, .bool false])
 | _ => none
def Af.U5 (A : Af) (f t : Nat) : Bool := A.vec f || A.vecT f t
structure Cx where
 P : Program
 A : Af
 K : k9
 lp : (List kR × kT → Option R) → List kR × kT → Option R
 n : Nat
 full : Nat
 pan : Bool := false
 vec : Nat → Bool := fun _ => false
 frz : Bool := false
 vlit : Bool := false
 vmk : Bool := false
 jt : Bool := false
 lkp : Bool := false
 rb : Bool := false
def qC : kR → Option (Nat × List kR × List kR)
 | .func f first cap => some (f, first, cap)
 | _ => none
def lR : kR → Option kR
 | .ptr id off => some (.ptr id off)
 | .vptr id tot off => some (.vptr id tot off)
 | .pptr cs => some (.pptr cs)
 | .func f a b => some (.func f a b)
 | _ => none
def tR (id n : Nat) (h : kT) (v : kR) : Option (kR × kT) :=
 let vs := v.cells
 match h[id]? with
 | some .free => if vs.length = n ∧ vs.all kR.mC then some (.ptr id 0, h.set id (.cells vs)) else none
 | _ => none
def rT (A : Af) (f : Nat) (vs : List kR) : List kR := bif A.grow f then vs else vs.map kR.k8
def IM (x : kR) (h : kT) (kp : kR → kT → Option R) : Option R :=
 match x with
 | .iface t w => kp (.iface t w) h
 | _ => none
def Ed (P : Program) (t : TypeId) : Option TypeId :=
 match P.underlying t with
 | some (.slice e) => some e
 | _ => none
def XD (k : Tg) (args : List kR) (h : kT) : Option (n_ × kT) := (adB k args).map fun v => (.ret v, h)
def vT (A : Af) (K : k9) (f : Nat) (args : List kR) (h : kT) : Option (n_ × kT) :=
 match A.ext f with
 | some k => XD k args h
 | none => K f args h
def Nf : Operand → Operand → Bool
 | .tmp a, .tmp b => a == b
 | .const (.int _ a), .const (.int _ b) => a == b
 | _, _ => false
def qK (cx : Cx) (b : Builtin) (argTypes : List TypeId) (args : List kR) (h : kT) (kv : kR → kT → Option R) : Option R :=
 match b, argTypes, args with
 | .len, [t], [x] => match cx.P.underlying t with
  | some (.array n _) => kv (.int .i64 n) h
  | some .string => (CN x).bind fun w => kv w h
  | some (.slice _) => (lN x).bind fun w => kv w h
  | _ => none
 | .min, _, [x, y] => (wR x y).bind fun w => kv w h
 | .max, _, [x, y] => (Ah x y).bind fun w => kv w h
 | .append, [t, t'], [s, x] => match Ed cx.P t with
  | some e => bif t != t' then none else match nY cx.P e, xZ cx.P e, qH cx.P e with
   | some sz, some by_, some z => bif sz == 0 || z.oI || z.cells.length != sz then none else lE (bif cx.vec t then mY sz by_ h s x else nQ sz by_ h s x) kv
   | _, _, _ => none
  | none => none
 | .copy, [t, t'], [d, x] => match Ed cx.P t, cx.P.underlying t' with
  | some e, some .string => match nY cx.P e, qH cx.P e with
   | some 1, some (.int .u8 _) => lE (LW h d x) kv
   | _, _ => none
  | _, _ => none
 | .delete, [t, _], [m, k] => match cx.P.underlying t with
  | some (.map kt _) => match cx.P.underlying kt with
   | some d => bif oG d k then (Bg h m k).bind fun h' => kv (.tuple []) h' else none
   | none => none
  | _ => none
 | .clear, [t], [x] => match cx.P.underlying t with
  | some (.slice e) => match nY cx.P e, qH cx.P e with
   | some sz, some z => bif z.oI then none else (B5 sz z.cells h x).bind fun h' => kv (.tuple []) h'
   | _, _ => none
  | some (.map _ _) => (Ds h x).bind fun h' => kv (.tuple []) h'
  | _ => none
 | _, _, _ => none
def nH (cx : Cx) (o : Oper) (rsv : Option Nat) (v : Operand → kR) (h : kT) (kv : kR → kT → Option R) (kp : kR → kT → Option R) : Option R :=
 match o.op with
 | .move x => kv (v x) h
 | .assign x => bif yU x then kv (.slice [] (.own h.length)) (h ++ [.front 0 0]) else kv (v x) h
 | .pick c a b => (lV (v c) (v a) (v b)).bind fun w => kv w h
 | .alloc t => match nY cx.P t, qH cx.P t with
  | some n, some z => match rsv with
   | none => lE (nG n h z) kv
   | some id => lE (tR id n h z) kv
  | _, _ => none
 | .box t x => match nY cx.P t with
  | some n => match rsv with
   | none => lE (nG n h (v x)) kv
   | some id => lE (tR id n h (v x)) kv
  | none => none
 | .build t parts => match qH cx.P t, cx.P.underlying t with
  | some z, some (.struct fs) =>
   match fs.toList.mapM (fun f => (nY cx.P f.type).map fun n => (f.offset, n)) with
   | some places => bif z.oI then none else (nO z.cells places (parts.toList.map fun p => (p.1, v p.2))).bind fun w => kv w h
   | none => none
  | some z, some (.array len e) => match nY cx.P e with
   | some n => bif z.oI then none else (nO z.cells ((List.range len).map fun i => (i * n, n)) (parts.toList.map fun p => (p.1, v p.2))).bind fun w => kv w h
   | none => none
  | _, _ => none
 | .buildSlice t len parts => match Ed cx.P t with
  | some e => match nY cx.P e, qH cx.P e with
   | some n, some z => bif n == 0 || z.oI || decide (len * n > 16777216) then none else match rsv with
    | none => lE (bif cx.vlit then pY len n z.cells (parts.toList.map fun p => (p.1, v p.2)) h else lP len n z.cells (parts.toList.map fun p => (p.1, v p.2)) h) kv
    | some id => lE (pQ id len n z.cells (parts.toList.map fun p => (p.1, v p.2)) h) kv
   | _, _ => none
  | none => none
 | .load t a => match p9 cx.P t, nY cx.P t with
  | some g, some n => (kV g n h (v a)).bind fun w => kv w h
  | _, _ => none
 | .store t a x => match nY cx.P t with
  | some n => bif cx.frz then (rC h (v x)).bind fun y => (lU n y.2 (v a) y.1).bind fun h' => kv (.tuple []) h' else (lU n h (v a) (v x)).bind fun h' => kv (.tuple []) h'
  | none => none
 | .nilCheck x => (lR (v x)).bind fun w => kv w h
 | .binOp op t x y _ => match op, cx.P.underlying t with
  | .eql, some (.struct _) => match CU cx.P t with
   | some ks => (o_ ks (v x) (v y)).bind fun b => kv (.bool b) h
   | none => none
  | .neq, some (.struct _) => match CU cx.P t with
   | some ks => (o_ ks (v x) (v y)).bind fun b => kv (.bool (!b)) h
   | none => none
  | _, some .bool => (Fh op (v x) (v y)).bind fun w => kv w h
  | _, some (.int _) | _, some .string => (kZ op (v x) (v y)).bind fun w => kv w h
  | _, _ => none
 | .unOp op _ x => (yF op (v x)).bind fun w => kv w h
 | .convert s d x => match cx.P.underlying s, cx.P.underlying d with
  | some (.int _), some (.int k) => (Az k (v x)).bind fun w => kv w h
  | some (.slice e), some .string => match cx.P.underlying e with
   | some (.int .u8) => (bif cx.rb then Be h (v x) else uN (v x)).bind fun w => kv w h
   | _ => none
  | _, _ => none
 | .makeMap _ none => kv (.map h.length) (h ++ [.map []])
 | .makeSlice t l c => match Ed cx.P t with
  | some e => match nY cx.P e, xZ cx.P e, qH cx.P e with
   | some n, some by_, some z => bif n == 0 || z.oI || z.cells.length != n || !(z.cells.all kR.mC) || !(Nf l c) then none else lE (bif cx.vmk then oK n by_ z.cells (v l) h else pD n by_ z.cells (v l) h) kv
   | _, _, _ => none
  | none => none
 | .lookup t m k ok => match cx.P.underlying t with
  | some (.map kt e) => match cx.P.underlying kt, qH cx.P e with
   | some d, some z => bif oG d (v k) then (zG z ok h (v m) (v k)).bind fun w => kv w h else none
   | _, _ => none
  | _ => none
 | .mapUpdate t m k x => match cx.P.underlying t with
  | some (.map kt _) => match cx.P.underlying kt with
   | some d => bif oG d (v k) then (xF h (v m) (v k) (v x)).bind fun h' => kv (.tuple []) h' else none
   | none => none
  | _ => none
 | .makeInterface t x => match cx.P.underlying t with
  | some (.interface _) => none
  | some _ => kv (.iface t (v x)) h
  | none => none
 | .makeFunc (.func f) first cap => kv (.func f (first.toList.map v) (cap.toList.map v)) h
 | .slice t x lo hi none => match cx.P.underlying t with
  | some .string => (rN (v x) (lo.map v) (hi.map v)).bind fun w => kv w h
  | some (.slice e) => match nY cx.P e with
   | some n => (nK n (v x) (lo.map v) (hi.map v)).bind fun w => kv w h
   | none => none
  | _ => none
 | .fieldAddr s x f => match cx.P.underlying s with
  | some (.struct fs) => match fs[f]? with
   | some fd => match nY cx.P fd.type with
    | some (_ + 1) => (kU fd.offset (v x)).bind fun w => kv w h
    | _ => none
   | none => none
  | _ => none
 | .field t x f => match cx.P.underlying t with
  | some (.struct fs) => match fs[f]? with
   | some fd => match p9 cx.P fd.type, nY cx.P fd.type with
    | some g, some n => (AA g n fd.offset (v x)).bind fun w => kv w h
    | _, _ => none
   | none => none
  | _ => none
 | .indexAddr t x i => match cx.P.underlying t with
  | some (.slice e) => match nY cx.P e with
   | some (n + 1) => (kY (n + 1) (v x) (v i)).bind fun w => kv w h
   | _ => none
  | some (.array len e) => match nY cx.P e with
   | some (n + 1) => (wO len (n + 1) (v x) (v i)).bind fun w => kv w h
   | _ => none
  | _ => none
 | .index t x i => match cx.P.underlying t with
  | some .string => (rM (v x) (v i)).bind fun w => kv w h
  | some (.array len e) => match p9 cx.P e, nY cx.P e with
   | some g, some n => (Dt g len n (v x) (v i)).bind fun w => kv w h
   | _, _ => none
  | _ => none
 | .extract x i => (mF i (v x)).bind fun w => kv w h
 | .typeAssert x _ t true => match cx.P.underlying t with
  | some (.interface _) => none
  | some _ => match qH cx.P t with
   | some z => (xH t z (v x)).bind fun w => kv w h
   | none => none
  | none => none
 | .panic x => IM (v x) h kp
 | .call c => match c.callee with
  | .builtin b => qK cx b c.argTypes.toList (c.args.toList.map v) h kv
  | .value f => (qC (v f)).bind fun g => k_ (vT cx.A cx.K g.1 (rT cx.A g.1 (g.2.1 ++ c.args.toList.map v ++ g.2.2)) h) kv kp
  | _ => none
 | _ => none
def evalOp (cx : Cx) (o : Oper) (rsv : Option Nat) (ρ : List kR) (h : kT) (kv : kR → kT → Option R) (kp : kR → kT → Option R) : Option R := nH cx o rsv (pZ cx.A ρ) h kv kp
def pG (ρ : List kR) (dst : Option Tmp) (v : kR) : List kR :=
 match dst with
 | some d => ρ.set d v
 | none => ρ
def nI (cx : Cx) (o : Oper) (ids : List Nat) (ρ : List kR) (h : kT) (kv : kR → kT → Option R) (kp : kR → kT → Option R) : Option R :=
 evalOp cx o none ρ (tN ids h) (fun v h' => kv v (nT ids h h')) (fun v h' => kp v (nT ids h h'))
def kX (kv kp : kR → kT → Option R) : R → Option R
 | (.normal, [v], h) => kv v h
 | (.pan v, _, h) => kp v h
 | _ => none
def kW (v : kR) (h : kT) : Option R := some (.normal, [v], h)
def yG (v : kR) (h : kT) : Option R := some (.pan v, [], h)
def kS (want : Bool) (g : kR) (run skip : Option R) : Option R :=
 match g with
 | .bool g => bif want then (bif g then run else skip) else (bif g then skip else run)
 | .tuple [] => skip
 | _ => none
def qY (cx : Cx) (ops : List Oper) (o : Oper) (ids : List Nat) (ρ : List kR) (h : kT) (kv : kR → kT → Option R) (kp : kR → kT → Option R) : Option R :=
 match o.guard with
 | none => nI cx o ids ρ h kv kp
 | some (j, want) => match (ops[j]?).bind (·.dst) with
  | some d => (kS want (ρ.getD d .junk) (nI cx o ids ρ h kW yG) (kW (.tuple []) h)).bind (kX kv kp)
  | none => none
def seenAt (A : Af) (o : Oper) (ρ : List kR) : kR := match r5 o with
 | some a => pZ A ρ a
 | none => .junk
def A2 (m : Nat) (v : kR) : kR := bif v.rX m then v else .junk
def vY (m : Nat) : lW → Bool
 | .cells cs => cs.all (kR.rX m)
 | .vec _ _ cs => cs.all (kR.rX m)
 | .map es => es.all fun e => e.2.rX m
 | _ => true
def OG (m : Nat) (h : kT) (kv : kR → kT → Option R) : R → Option R
 | (.normal, [v], h') => bif h'.length == m then kv v (h' ++ h.drop m) else none
 | _ => none
def uZ (cx : Cx) (o : Oper) (m : Nat) (ids : List Nat) (ρ : List kR) (h : kT) (kv : kR → kT → Option R) : Option R :=
 bif (h.take m).all (vY m) then (nI cx o ids (ρ.map (A2 m)) (h.take m) kW yG).bind (OG m h kv) else none
def nR (cx : Cx) (ops : List Oper) (m : Nat) (it : Item) (ids : List Nat) (ρ : List kR) (h : kT) (kv : kR → kT → Option R) (kp : kR → kT → Option R) : Option R :=
 match it.rsv with
 | some j => bif qL it.o then evalOp cx it.o (some (m + j)) ρ h kv (fun _ _ => none) else none
 | none => bif it.hid then (bif tX it.o then uZ cx it.o m ids ρ h kv else none) else qY cx ops it.o ids ρ h kv kp
def I2 {α : Type} : List kR → (List kR → α) → α
 | [], k => k []
 | x :: xs, k => I2 xs fun ys => k (x :: ys)
theorem uQ {α : Type} : ∀ {l : List kR} {k : List kR → α}, I2 l k = k l
 | [], _ => rfl
 | x :: xs, k => by rw [I2, uQ]
def nX (cx : Cx) (ops : List Oper) (m : Nat) : List Item → List kR → List kR → kT → (List kR → kT → Option R) → (kR → kT → Option R) → Option R
 | [], _, ρ, h, k, _ => k ρ h
 | it :: rest, seen, ρ, h, k, kp =>
  nR cx ops m it (mS it.locks seen) ρ h (fun v h' => I2 (pG ρ it.o.dst v) fun ρ' => nX cx ops m rest (seen.set it.i (seenAt cx.A it.o ρ)) ρ' h' k kp) kp
def De : List Item → Nat
 | [] => 0
 | it :: r => match it.rsv with | some _ => De r + 1 | none => De r
def HJ : Nat → List lW
 | 0 => []
 | n + 1 => .free :: HJ n
def By (n : Nat) (h : kT) : kT :=
 match n with
 | 0 => h
 | n + 1 => h ++ HJ (n + 1)
def tB (cx : Cx) (ops : List Oper) (draw : Bool) (ρ : List kR) (h : kT) (k : List kR → kT → Option R) (kp : kR → kT → Option R) : Option R :=
 match draw with
 | false => nX cx ops 0 (pF ops) [] ρ h k kp
 | true => match zK ops with
  | some items => nX { cx with rb := false } ops h.length items (List.replicate ops.length .junk) ρ (By (De items) h) k kp
  | none => none
def Eo (L : Nat) (ρ : List kR) (h : kT) : Option R := some (.normal, pack L ρ, h)
def En (L : Nat) (e : Ex) (ρ : List kR) (h : kT) : Option R := some (e, pack L ρ, h)
def ad2 (b : Bool) (ke : Ex → List kR → kT → Option R) (ρ : List kR) : kR → kT → Option R :=
 match b with
 | true => fun v h => ke (.pan v) ρ h
 | false => fun _ _ => none
def Ex.oM (m : Nat) (h : kT) : Ex → Ex
 | .pan v => .pan (v.oM m h)
 | e => e
def lC (m : Nat) (e : Ex) (vs : List kR) (h : kT) : Option R := (mL m h).map fun h' => (e.oM m h, vs.map (·.oM m h), h')
def BL (j : Bool) (m L : Nat) (e : Ex) (ρ : List kR) (h : kT) : Option R :=
 match j with
 | false => some (e, pack L ρ, h)
 | true => lC m e (pack L ρ) h
def endRound (m L : Nat) (e : Ex) (ρ : List kR) (h : kT) : Option R := lC m e (pack L ρ) h
def AG (k : Bool) (m L : Nat) (e : Ex) (ρ : List kR) (h : kT) : Option R :=
 match k with
 | false => endRound m L e ρ h
 | true => some (e, pack L ρ, h)
def evalCode (cx : Cx) : Code → Nat → List kR → kT → (List kR → kT → Option R) → (Ex → List kR → kT → Option R) → Option R
 | .skip, _, ρ, h, kn, _ => kn ρ h
 | .region _ ops draw, _, ρ, h, kn, ke => tB cx ops.toList draw ρ h kn (ad2 cx.pan ke ρ)
 | .seq a b, L, ρ, h, kn, ke => evalCode cx a (L ||| ue cx.full b) ρ h (fun ρ' h' => evalCode cx b L ρ' h' kn ke) ke
 | .cond c a b, L, ρ, h, kn, ke =>
  bif tI a && tI b then
   (lG (pZ cx.A ρ c) (evalCode cx a L ρ h (BL cx.jt h.length L .normal) (BL cx.jt h.length L)) (evalCode cx b L ρ h (BL cx.jt h.length L .normal) (BL cx.jt h.length L))).bind fun r =>
    bif cx.pan || (leaves [] a || leaves [] b) then r.1.lY (kn (unpack cx.n L r.2.1) r.2.2) fun e => ke e (unpack cx.n L r.2.1) r.2.2
    else r.1.sO (kn (unpack cx.n L r.2.1) r.2.2)
  else lG (pZ cx.A ρ c) (evalCode cx a L ρ h kn ke) (evalCode cx b L ρ h kn ke)
 | .block id c, L, ρ, h, kn, ke =>
  bif decide (2 ≤ x9 id c + bif tI c then 1 else 0) then
   (evalCode cx c L ρ h (BL cx.jt h.length L .normal) (BL cx.jt h.length L)).bind fun r => r.1.inBlock id (kn (unpack cx.n L r.2.1) r.2.2) fun e => ke e (unpack cx.n L r.2.1) r.2.2
  else evalCode cx c L ρ h kn fun e ρ' h' => e.inBlock id (kn ρ' h') fun e => ke e ρ' h'
 | .loop c, L, ρ, h, _, ke =>
  (cx.lp (fun s => evalCode cx c (L ||| ue cx.full c) (unpack cx.n (L ||| ue cx.full c) s.1) s.2 (AG cx.lkp h.length (L ||| ue cx.full c) .normal) (AG cx.lkp h.length (L ||| ue cx.full c)))
    (pack (L ||| ue cx.full c) ρ, h)).bind
   fun r => r.1.lY none fun e => ke e (unpack cx.n (L ||| ue cx.full c) r.2.1) r.2.2
 | .scope c, L, ρ, h, kn, ke => evalCode cx c L ρ h kn ke
 | .label _, _, ρ, h, kn, _ => kn ρ h
 | .exit id, _, ρ, h, _, ke => ke (.exit id) ρ h
 | .ret, _, ρ, h, _, ke => ke .ret ρ h
 | _, _, _, _, _, _ => none
def xP (fn : Func) : Nat := fn.results.toList.foldl (fun m r => match r with | .tmp t => m ||| Ai t | .cell a _ => m ||| Ai a) 0
def vW (P : Program) (ρ : List kR) (h : kT) : ResultVar → Option kR
 | .tmp t => some (ρ.getD t .junk)
 | .cell a t => match p9 P t, nY P t with
  | some g, some n => kV g n h (ρ.getD a .junk)
  | _, _ => none
def vC (P : Program) (ρ : List kR) (h : kT) : List ResultVar → (List kR → Option (n_ × kT)) → Option (n_ × kT)
 | [], k => k []
 | .tmp t :: r, k => vC P ρ h r fun vs => k (ρ.getD t .junk :: vs)
 | .cell a t :: r, k => match p9 P t, nY P t with
  | some g, some n => (kV g n h (ρ.getD a .junk)).bind fun v => vC P ρ h r fun vs => k (v :: vs)
  | _, _ => none
def oneOf : List kR → kR
 | [v] => v
 | vs => .tuple vs
def nE (m : Nat) (v : kR) (h : kT) : Option (n_ × kT) := (mL m h).map fun h' => (.ret (v.oM m h).k8, h')
def adD (m : Nat) (v : kR) (h : kT) : Option (n_ × kT) := (mL m h).map fun h' => (.ret (v.oM m h), h')
def QZ (m : Nat) (v : kR) (h : kT) : Option (n_ × kT) := (rC h v).bind fun y => nE m y.1 y.2
def kR.BY (v : kR) : List Nat := match uI v with | some id => [id] | none => []
def kR.refs : kR → List Nat
 | .agg cs => cs.flatMap kR.BY
 | v => v.BY
def lW.refs : lW → List Nat
 | .cells cs => cs.flatMap kR.BY
 | .vec _ _ cs => cs.flatMap kR.BY
 | .map es => es.flatMap fun e => e.2.BY
 | _ => []
def kR.Ar (f : Nat → Nat) : kR → kR
 | .ptr id o => .ptr (f id) o
 | .mslice id a b c => .mslice (f id) a b c
 | .vslice id t a b c => .vslice (f id) t a b c
 | .vptr id t o => .vptr (f id) t o
 | .map id => .map (f id)
 | .slice rows (.own id) => .slice rows (.own (f id))
 | v => v
def kR.vG (f : Nat → Nat) : kR → kR
 | .agg cs => .agg (cs.map (kR.Ar f))
 | .tuple vs => .tuple (vs.map fun v => match v with | .agg cs => .agg (cs.map (kR.Ar f)) | v => v.Ar f)
 | v => v.Ar f
def kR.HV (p : Nat → Bool) : kR → Bool
 | .agg _ => false
 | .tuple _ => false
 | .iface _ _ => false
 | .func _ first cap => first.isEmpty && cap.isEmpty
 | v => match uI v with | some r => p r | none => true
def kR.ok (p : Nat → Bool) : kR → Bool
 | .agg cs => cs.all (kR.HV p)
 | .tuple vs => vs.all fun v => match v with | .agg cs => cs.all (kR.HV p) | v => v.HV p
 | v => v.HV p
def lW.vG (f : Nat → Nat) : lW → lW
 | .cells cs => .cells (cs.map (kR.Ar f))
 | .vec t s cs => .vec t s (cs.map (kR.Ar f))
 | .map es => .map (es.map fun e => (e.1, e.2.Ar f))
 | b => b
def lW.ok (p : Nat → Bool) : lW → Bool
 | .cells cs => cs.all (kR.HV p)
 | .vec _ _ cs => cs.all (kR.HV p)
 | .map es => es.all fun e => e.2.HV p
 | _ => true
def n_.vG (f : Nat → Nat) : n_ → n_
 | .ret v => .ret (v.vG f)
 | .pan v => .pan (v.vG f)
def n_.ok (p : Nat → Bool) : n_ → Bool
 | .ret v => v.ok p
 | .pan v => v.ok p
def An : List Nat → Nat → Nat
 | [], _ => 0
 | a :: r, i => bif a == i then 0 else An r i + 1
def tH : List Nat → Bool
 | [] => true
 | a :: r => !(r.contains a) && tH r
def Kl (acc : List Nat) : List Nat → List Nat
 | [] => acc
 | i :: r => Kl (bif acc.contains i then acc else acc ++ [i]) r
def L5 (h : kT) : Nat → List Nat → List Nat
 | 0, acc => acc
 | n + 1, acc => L5 h n (Kl acc (acc.flatMap fun i => match h[i]? with | some b => b.refs | none => []))
def reach (h : kT) (args : List kR) : List Nat := L5 h 3 (Kl [] (args.flatMap kR.refs))
def xN : List Nat → kT → kT → kT
 | i :: is, b :: bs, h => xN is bs (h.set i b)
 | _, _, h => h
def Im (ids : List Nat) (args : List kR) (h : kT) : Bool :=
 args.all (kR.ok fun i => ids.contains i) && (tH ids && ids.all fun i => match h[i]? with | some b => b.ok fun i => ids.contains i | none => false)
def yA (ids : List Nat) (h : kT) : kT := ids.map fun i => (h.getD i .free).vG (An ids)
def E1 (ids : List Nat) (h : kT) (r : n_ × kT) : Option (n_ × kT) :=
 bif r.2.length == ids.length && (r.2.all (lW.ok fun j => decide (j < ids.length)) && r.1.ok fun j => decide (j < ids.length))
 then some (r.1.vG fun j => ids.getD j 0, xN ids (r.2.map (lW.vG fun j => ids.getD j 0)) h) else none
def Sf (K : k9) (ids : List Nat) : k9 := fun f args h =>
 bif Im ids args h then (K f (args.map (kR.vG (An ids))) (yA ids h)).bind (E1 ids h) else none
def ZA (K : k9) : k9 := fun f args h => Sf K (reach h args) f args h
def M4 (m : Nat) (v : kR) (h : kT) : List Nat := Kl (List.range m) (reach h [v])
def R7 (ids : List Nat) (h : kT) : Bool := tH ids && ids.all fun i => match h[i]? with | some b => b.ok fun i => ids.contains i | none => false
def VJ (ids : List Nat) (v : kR) (h : kT) : Option (n_ × kT) := bif v.ok (fun i => ids.contains i) && R7 ids h then some (.ret (v.vG (An ids)), yA ids h) else none
def KH (m : Nat) (v : kR) (h : kT) : Option (n_ × kT) := VJ (M4 m v h) v h
def finish (A : Af) (f : Nat) (m : Nat) (v : kR) (h : kT) : Option (n_ × kT) :=
 bif A.esc f then some (.ret v, h) else bif A.grow f then adD m v h else bif A.frr f then QZ m v h else bif A.out f then KH m v h else nE m v h
def Ex.nV (e : Ex) (x : Option (n_ × kT)) : Option (n_ × kT) :=
 match e with
 | .normal => x
 | .ret => x
 | _ => none
def Ex.L9 (e : Ex) (x : Option (n_ × kT)) (xp : kR → Option (n_ × kT)) : Option (n_ × kT) :=
 match e with
 | .normal => x
 | .ret => x
 | .pan v => xp v
 | _ => none
def TR (m : Nat) (v : kR) (h : kT) : Option (n_ × kT) := (mL m h).map fun h' => (.pan (v.oM m h).k8, h')
def HC (P : Program) (A : Af) (f : Nat) (fn : Func) (m : Nat) (e : Ex) (ρ : List kR) (h : kT) : Option (n_ × kT) :=
 bif A.pan f then e.L9 (vC P ρ h fn.results.toList fun vs => finish A f m (oneOf vs) h) fun v => TR m v h
 else e.nV (vC P ρ h fn.results.toList fun vs => finish A f m (oneOf vs) h)
def Bo (o : Oper) : Bool := o.guard.isNone && match o.op with | .call c => (match c.callee with | .builtin .recover => true | _ => false) | _ => false
def NR (o : Oper) : Option Operand :=
 match o.guard, o.op with
 | none, .defer c => match c.callee with
  | .value f => bif c.args.isEmpty && o.dst.isNone then some f else none
  | _ => none
 | _, _ => none
def yR (ops : List Oper) : Option Operand := (ops.getLast?).bind NR
def AS (m : Nat) : Code → Bool
 | .region _ ops _ => ops.toList.all fun o => match o.dst with | some d => !(m.testBit d) | none => true
 | .seq a b | .cond _ a b => AS m a && AS m b
 | .block _ c | .loop c => AS m c
 | .skip | .exit _ | .ret => true
 | _ => false
def Ex.L8 (e : Ex) (xn : Option R) (xp : kR → Option R) : Option R :=
 match e with
 | .normal => xn
 | .ret => xn
 | .pan v => xp v
 | _ => none
def Ex.QR (e : Ex) (x : Option kT) : Option kT :=
 match e with
 | .normal => x
 | .ret => x
 | _ => none
def s9 (cx : Cx) (g : Nat) (caps : List kR) (pv : Option kR) (h : kT) : Option kT :=
 match cx.P.funcs[g]? with
 | some fn => match fn.body with
  | some (.seq (.region _ ops false) c) => match ops.toList with
   | o :: _ => bif Bo o && decide (caps.length ≤ fn.ntmps) && fn.results.isEmpty && !(fn.name == "runtime.NumGoroutine") then
     (nX { cx with n := fn.ntmps, full := 2 ^ fn.ntmps - 1, pan := false } ops.toList 0 (pF ops.toList).tail []
      (pG (caps ++ List.replicate (fn.ntmps - caps.length) (.tuple [])) o.dst (pv.getD .niliface)) h
      (fun ρ' h' => evalCode { cx with n := fn.ntmps, full := 2 ^ fn.ntmps - 1, pan := false } c 0 ρ' h' (Eo 0) (En 0)) (fun _ _ => none)).bind
      fun r => r.1.QR (mL h.length r.2.2)
    else none
   | [] => none
  | _ => none
 | none => none
def wW (cx : Cx) (b : Code) (L : Nat) (fv : kR) (ρ : List kR) (h : kT) : Option R :=
 bif AS L b then (qC fv).bind fun g =>
  (evalCode { cx with pan := true } b L ρ h (Eo L) (En L)).bind fun r =>
   r.1.L8 ((s9 cx g.1 (g.2.1 ++ g.2.2) none r.2.2).map fun h2 => (.ret, r.2.1, h2)) fun v => (s9 cx g.1 (g.2.1 ++ g.2.2) (some v) r.2.2).map fun h2 => (.ret, pack L ρ, h2)
 else none
def Ex.N4 (e : Ex) (x : Option R) : Option R :=
 match e with
 | .ret => x
 | _ => none
def HY (L : Nat) (e : Ex) (ρ : List kR) (h : kT) : Option R := e.N4 (some (.ret, pack L ρ, h))
def qD (cx : Cx) : Code → Nat → List kR → kT → Option R
 | .seq (.region id ops false) b, L, ρ, h => match yR ops.toList with
  | some f => nX cx ops.toList 0 (pF ops.toList).dropLast [] ρ h (fun ρ' h' => wW cx b L (pZ cx.A ρ' f) ρ' h') (fun _ _ => none)
  | none => evalCode cx (.region id ops false) (L ||| ue cx.full b) ρ h (fun ρ' h' => qD cx b L ρ' h') (HY L)
 | .seq a b, L, ρ, h => evalCode cx a (L ||| ue cx.full b) ρ h (fun ρ' h' => qD cx b L ρ' h') (HY L)
 | _, _, _, _ => none
def AI (cx : Cx) (d : Bool) (c : Code) (L : Nat) (ρ : List kR) (h : kT) : Option R :=
 match d with
 | true => qD { cx with pan := false } c L ρ h
 | false => evalCode cx c L ρ h (Eo L) (En L)
def IW (P : Program) (A : Af) (K : k9) (lp : (List kR × kT → Option R) → List kR × kT → Option R) (f : Nat) (fn : Func) (c : Code) (args : List kR) (h : kT) : Option (n_ × kT) :=
 (AI { P, A, K, lp, n := fn.ntmps, full := 2 ^ fn.ntmps - 1, pan := A.pan f, vec := A.U5 f, frz := A.frz f, vlit := A.vlit f, vmk := A.vmk f, jt := A.jt f, lkp := A.lkp f, rb := A.rb f } (A.dfr f) c (xP fn)
   (args ++ List.replicate (fn.ntmps - args.length) (.tuple [])) h).bind
  fun r => HC P A f fn h.length r.1 (unpack fn.ntmps (xP fn) r.2.1) r.2.2
def p_ : Nat → (List kR × kT → Option R) → List kR × kT → Option R
 | 0, _, _ => none
 | n + 1, F, s => (F s).bind fun r => r.1.lY (p_ n F r.2) fun e => some (e, r.2)
def vF (out : Bool) (h : kT) (r : n_ × kT) : Option (n_ × kT) := match r.2 with
 | [] => some (r.1, h)
 | _ => bif out && (r.2.all (lW.ok fun j => decide (j < r.2.length)) && r.1.ok fun j => decide (j < r.2.length)) then some (r.1.vG fun j => h.length + j, h ++ r.2.map (lW.vG fun j => h.length + j)) else none
def mI (A : Af) (K : k9) : k9 := fun f args h =>
 bif A.pure f then (bif args.all (kR.rX 0) then (K f args []).bind (vF (A.out f) h) else none) else bif A.sub f then ZA K f args h else K f args h
abbrev PZ := (List kR × kT → Option R) → List kR × kT → Option R
def qQ (P : Program) (A : Af) (lp : PZ) (K : k9) (f : Nat) (args : List kR) (h : kT) : Option (n_ × kT) :=
 bif A.srt f then R_ args h else
 match A.srf f with
 | some g => Eu g args h
 | none => match P.funcs[f]? with
  | some fn => match fn.body with
   | some c => bif decide (args.length ≤ fn.ntmps) && !(fn.name == "runtime.NumGoroutine") then IW P A (mI A K) lp f fn c args h else none
   | none => none
  | none => none
def L_ (P : Program) (A : Af) (lp : PZ) : Nat → k9
 | 0, _, _, _ => none
 | n + 1, f, args, h => qQ P A lp (L_ P A lp n) f args h
end Hk


namespace Hk
open Go Go.RowKit
structure Gh where
 H : Nat → Nat → Option Value
 mX : Nat → Nat
 cur : Nat → Value
inductive o7 (H : Nat → Nat → Option Value) : kR → Value → Prop
 | junk (V : Value) : o7 H .junk V
 | bool (b : Bool) : o7 H (.bool b) (.bool b)
 | int (k : IntKind) (n : Int) : o7 H (.int k n) (.int k n)
 | str (s : List UInt8) : o7 H (.str s) (.string ⟨s.toArray⟩)
 | agg (cs : List kR) (C : Array Value) (hl : cs.length = C.size) (h : ∀ (i : Nat) (v : kR), cs[i]? = some v → o7 H v (C.getD i undef)) : o7 H (.agg cs) (.agg C)
 | tuple (cs : List kR) (C : Array Value) (hl : cs.length = C.size) (h : ∀ (i : Nat) (v : kR), cs[i]? = some v → o7 H v (C.getD i undef)) : o7 H (.tuple cs) (.tuple C)
 | slice0 (a : Option Addr) (cap : Nat) : o7 H (.slice [] .no) (.slice a 0 cap)
 | slice (rows : List (List kR)) (b off cap sz : Nat) (V : Nat → Value) (hr : ∀ r ∈ rows, r.length = sz) (hc : rows.length ≤ cap)
   (hH : ∀ (i j : Nat) (row : List kR) (v : kR), rows[i]? = some row → row[j]? = some v → H b (off + (i * sz + j)) = some (V (i * sz + j)))
   (hk : ∀ (i j : Nat) (row : List kR) (v : kR), rows[i]? = some row → row[j]? = some v → v.mC = true)
   (hV : ∀ (i j : Nat) (row : List kR) (v : kR), rows[i]? = some row → row[j]? = some v → o7 H v (V (i * sz + j))) :
   o7 H (.slice rows .no) (.slice (some ⟨b, off, none⟩) rows.length cap)
 | pptr (cs : List kR) (b off : Nat) (V : Nat → Value)
   (hH : ∀ (j : Nat) v, cs[j]? = some v → H b (off + j) = some (V j))
   (hk : ∀ (j : Nat) (v : kR), cs[j]? = some v → v.mC = true)
   (hV : ∀ (j : Nat) v, cs[j]? = some v → o7 H v (V j)) : o7 H (.pptr cs) (.pointer (some ⟨b, off, none⟩))
 | nilptr : o7 H .nilptr (.pointer none)
 | nilmap : o7 H .nilmap (.map none)
 | nilfunc : o7 H .nilfunc .nilFunc
 | niliface : o7 H .niliface .nilIface
 | func (f : Nat) : o7 H (.func f [] []) (.func (.func f) #[] #[])
 | iface (t : Nat) (v : kR) (V : Value) (h : o7 H v V) : o7 H (.iface t v) (.iface t V)
theorem o7.mono {H H' : Nat → Nat → Option Value} (hh : ∀ b k v, H b k = some v → H' b k = some v) {v : kR} {V : Value} (h : o7 H v V) : o7 H' v V := by
 induction h with
 | junk V => exact .junk V
 | bool b => exact .bool b
 | int k n => exact .int k n
 | str s => exact .str s
 | agg cs C hl _ ih => exact .agg cs C hl ih
 | tuple cs C hl _ ih => exact .tuple cs C hl ih
 | slice0 a cap => exact .slice0 a cap
 | slice rows b off cap sz V hr hc hH hk _ ih => exact .slice rows b off cap sz V hr hc (fun i j row v h1 h2 => hh _ _ _ (hH i j row v h1 h2)) hk ih
 | pptr cs b off V hH hk _ ih => exact .pptr cs b off V (fun j v h1 => hh _ _ _ (hH j v h1)) hk ih
 | nilptr => exact .nilptr
 | nilmap => exact .nilmap
 | nilfunc => exact .nilfunc
 | niliface => exact .niliface
 | func f => exact .func f
 | iface t v V _ ih => exact .iface t v V ih
def live (h : kT) (id : Nat) : Prop := ∃ b, h[id]? = some b ∧ b ≠ .free
def sG (h : kT) (id : Nat) : Prop := ∃ b, h[id]? = some b ∧ b ≠ .free ∧ ∀ n sz, b ≠ .front n sz
def vJ : Value → Nat
 | .slice _ n _ => n
 | _ => 0
inductive lM (G : Gh) (h : kT) : kR → Value → Prop
 | p (v : kR) (V : Value) (hp : o7 G.H v V) : lM G h v V
 | agg (cs : List kR) (C : Array Value) (hl : cs.length = C.size) (hh : ∀ (i : Nat) (v : kR), cs[i]? = some v → lM G h v (C.getD i undef)) : lM G h (.agg cs) (.agg C)
 | tuple (cs : List kR) (C : Array Value) (hl : cs.length = C.size) (hh : ∀ (i : Nat) (v : kR), cs[i]? = some v → lM G h v (C.getD i undef)) : lM G h (.tuple cs) (.tuple C)
 | nil : lM G h (.slice [] .nil) (.slice none 0 0)
 | own (rows : List (List kR)) (id n sz : Nat) (V : Value) (hp : o7 G.H (.slice rows .no) V) (hf : h[id]? = some (.front n sz)) (hn : rows.length ≤ n) (hr : ∀ r ∈ rows, r.length = sz) (hc : rows.length = n → V = G.cur id) : lM G h (.slice rows (.own id)) V
 | ownv (id : Nat) (V : Value) (hp : o7 G.H (.slice [] .no) V) (hb : sG h id) : lM G h (.slice [] (.own id)) V
 | vslice (id tot off len sz b cap : Nat) (hl : sG h id) (ht : tot ≤ vJ (G.cur id)) (hc : len ≤ cap)
   (hv : tot = vJ (G.cur id) → ∃ l cap0, G.cur id = .slice (some ⟨b, 0, none⟩) tot cap0 ∧ off = l * sz ∧ l + len ≤ tot ∧ cap = cap0 - l) : lM G h (.vslice id tot off len sz) (.slice (some ⟨b, off, none⟩) len cap)
 | vptr (id tot off b : Nat) (hl : sG h id) (ht : tot ≤ vJ (G.cur id)) (hv : tot = vJ (G.cur id) → ∃ cap0, G.cur id = .slice (some ⟨b, 0, none⟩) tot cap0) : lM G h (.vptr id tot off) (.pointer (some ⟨b, off, none⟩))
 | ptr (id off : Nat) (hl : live h id) : lM G h (.ptr id off) (.pointer (some ⟨G.mX id, off, none⟩))
 | mslice (id off len sz cap : Nat) (hl : live h id) (hc : len ≤ cap) : lM G h (.mslice id off len sz) (.slice (some ⟨G.mX id, off, none⟩) len cap)
 | mslice0 (id off sz cap : Nat) (a : Option Addr) : lM G h (.mslice id off 0 sz) (.slice a 0 cap)
 | map (id : Nat) (hl : live h id) : lM G h (.map id) (.map (some (G.mX id)))
 | func (f : Nat) (first cap : List kR) (F C : Array Value) (hlf : first.length = F.size) (hlc : cap.length = C.size)
   (hf : ∀ (i : Nat) (v : kR), first[i]? = some v → lM G h v (F.getD i undef)) (hc : ∀ (i : Nat) (v : kR), cap[i]? = some v → lM G h v (C.getD i undef)) : lM G h (.func f first cap) (.func (.func f) F C)
 | iface (t : Nat) (v : kR) (V : Value) (hh : lM G h v V) : lM G h (.iface t v) (.iface t V)
def owner (G : Gh) (h : kT) (id : Nat) : Option Nat :=
 match h[id]? with
 | some (.cells _) | some (.map _) => some (G.mX id)
 | some (.front _ _) | some (.vec _ _ _) => (G.cur id).ownBlock
 | _ => none
def vS (G : Gh) (h : kT) (w : World) (id : Nat) : lW → Prop
 | .free => True
 | .gone => True
 | .cells cs => ∃ C e, w.heap[G.mX id]? = some (.cells C e (0, 0)) ∧ C.size = cs.length ∧ (∀ k, G.H (G.mX id) k = none) ∧
   ∀ (i : Nat) (v : kR), cs[i]? = some v → v.mC = true ∧ lM G h v (C.getD i undef)
 | .front n sz => (n = 0 ∧ G.cur id = .slice none 0 0) ∨ ∃ b cap C e, G.cur id = .slice (some ⟨b, 0, none⟩) n cap ∧ w.heap[b]? = some (.cells C e (0, 0)) ∧
   n ≤ cap ∧ cap ≤ maxLen ∧ C.size = cap * sz ∧ 0 < sz ∧ ∀ k, n * sz ≤ k → G.H b k = none
 | .vec tot sz cs => ∃ b cap C e, G.cur id = .slice (some ⟨b, 0, none⟩) tot cap ∧ w.heap[b]? = some (.cells C e (0, 0)) ∧ tot ≤ cap ∧ cap ≤ maxLen ∧ C.size = cap * sz ∧ 0 < sz ∧ cs.length = tot * sz ∧ (∀ k, G.H b k = none) ∧
   ∀ (i : Nat) (v : kR), cs[i]? = some v → v.mC = true ∧ lM G h v (C.getD i undef)
 | .map es => ∃ E clock, w.heap[G.mX id]? = some (.map E clock) ∧ E.size = es.length ∧ (∀ k, G.H (G.mX id) k = none) ∧
   (∀ (i : Nat) (kv : kR × kR), es[i]? = some kv → ∃ m, E[i]? = some m ∧ B7 kv.1 = true ∧ o7 G.H kv.1 m.key ∧ lM G h kv.2 m.val) ∧ MapKept.Stamped E clock
structure Inv (G : Gh) (h : kT) (w : World) : Prop where
 ok : ∀ b k v, G.H b k = some v → w.cell? ⟨b, k, none⟩ = some v
 mX : ∀ id bl, h[id]? = some bl → vS G h w id bl
 inj : ∀ i j b, owner G h i = some b → owner G h j = some b → i = j
def Kind (G G' : Gh) (id : Nat) : lW → lW → Prop
 | .free, _ => True
 | .gone, .gone => G'.mX id = G.mX id ∧ G'.cur id = G.cur id
 | .cells a, .cells b => a.length = b.length ∧ G'.mX id = G.mX id ∧ G'.cur id = G.cur id
 | .map _, .map _ => G'.mX id = G.mX id ∧ G'.cur id = G.cur id
 | .front n sz, .front n' sz' => n ≤ n' ∧ (n = n' → G'.cur id = G.cur id) ∧ G'.mX id = G.mX id ∧ (0 < n → sz' = sz)
 | .front n _, .vec _ _ _ => n = 0 ∧ G'.mX id = G.mX id
 | .front n _, .gone => n = 0 ∧ G'.mX id = G.mX id
 | .vec _ _ _, .vec _ _ _ => G'.mX id = G.mX id ∧ vJ (G.cur id) ≤ vJ (G'.cur id) ∧ (vJ (G.cur id) = vJ (G'.cur id) → G'.cur id = G.cur id)
 | .vec _ _ _, .gone => G'.mX id = G.mX id ∧ vJ (G.cur id) ≤ vJ (G'.cur id) ∧ (vJ (G.cur id) = vJ (G'.cur id) → G'.cur id = G.cur id)
 | _, _ => False
structure Ext (G : Gh) (h : kT) (w : World) (G' : Gh) (h' : kT) (w' : World) : Prop where
 os : w'.os = w.os
 tape : w'.tape = w.tape
 output : w'.output = w.output
 size : w.heap.size ≤ w'.heap.size
 frame : ∀ b, b < w.heap.size → (∀ id, owner G h id ≠ some b) → w'.heap[b]? = w.heap[b]? ∧ ∀ k, G'.H b k = G.H b k
 hmono : ∀ b k v, G.H b k = some v → G'.H b k = some v
 own : ∀ id b, owner G' h' id = some b → b < w.heap.size → owner G h id = some b
 kinds : ∀ id bl, h[id]? = some bl → ∃ bl', h'[id]? = some bl' ∧ Kind G G' id bl bl'
theorem Kind.refl (G : Gh) (id : Nat) (b : lW) : Kind G G id b b := by cases b <;> simp [Kind]
theorem Kind.trans {G G' G'' : Gh} {id : Nat} {a b c : lW} (h : Kind G G' id a b) (h' : Kind G' G'' id b c) : Kind G G'' id a c := by
 cases a <;> cases b <;> cases c <;> simp only [Kind] at h h' ⊢ <;> first
  | exact h.elim
  | exact h'.elim
  | trivial
  | exact ⟨h'.1.trans h.1, h'.2.trans h.2⟩
  | exact ⟨h.1.trans h'.1, h'.2.1.trans h.2.1, h'.2.2.trans h.2.2⟩
  | exact ⟨by omega, by omega, h'.2.2.1.trans h.2.2.1, fun e => by rw [h'.2.2.2 (by omega), h.2.2.2 e]⟩
  | exact ⟨by omega, fun e => by rw [h'.2.1 (by omega), h.2.1 (by omega)], h'.2.2.1.trans h.2.2.1, fun e => by rw [h'.2.2.2 (by omega), h.2.2.2 e]⟩
  | exact ⟨h'.1.trans h.1, by omega, fun e => by rw [h'.2.2 (by omega), h.2.2 (by omega)]⟩
  | exact ⟨h'.1.trans h.1, by have := h'.2; rw [h'.2]; exact h.2.1, fun e => by rw [h'.2] at e ⊢; exact h.2.2 e⟩
  | exact ⟨h.1, h'.1.trans h.2⟩
  | exact ⟨by omega, h'.2.trans h.2.2.1⟩
  | skip
theorem Ext.refl (G : Gh) (h : kT) (w : World) : Ext G h w G h w :=
 ⟨rfl, rfl, rfl, Nat.le_refl _, fun _ _ _ => ⟨rfl, fun _ => rfl⟩, fun _ _ _ h => h, fun _ _ h _ => h, fun id bl hb => ⟨bl, hb, Kind.refl G id bl⟩⟩
theorem Ext.trans {G G' G'' : Gh} {h h' h'' : kT} {w w' w'' : World} (a : Ext G h w G' h' w') (b : Ext G' h' w' G'' h'' w'') : Ext G h w G'' h'' w'' where
 os := b.os.trans a.os
 tape := b.tape.trans a.tape
 output := b.output.trans a.output
 size := Nat.le_trans a.size b.size
 frame := fun c hc hn => by
  obtain ⟨h1, h2⟩ := a.frame c hc hn
  obtain ⟨h3, h4⟩ := b.frame c (Nat.lt_of_lt_of_le hc a.size) (fun id ho => hn id (a.own id c ho hc))
  exact ⟨h3.trans h1, fun k => (h4 k).trans (h2 k)⟩
 hmono := fun c k v hv => b.hmono c k v (a.hmono c k v hv)
 own := fun id c ho hc => a.own id c (b.own id c ho (Nat.lt_of_lt_of_le hc a.size)) hc
 kinds := fun id bl hb => by
  obtain ⟨b1, h1, k1⟩ := a.kinds id bl hb
  obtain ⟨b2, h2, k2⟩ := b.kinds id b1 h1
  exact ⟨b2, h2, k1.trans k2⟩
structure BJ (G : Gh) (h : kT) (G' : Gh) (h' : kT) : Prop where
 hmono : ∀ b k v, G.H b k = some v → G'.H b k = some v
 kinds : ∀ id bl, h[id]? = some bl → ∃ bl', h'[id]? = some bl' ∧ Kind G G' id bl bl'
theorem Ext.toMono {G G' : Gh} {h h' : kT} {w w' : World} (a : Ext G h w G' h' w') : BJ G h G' h' := ⟨a.hmono, a.kinds⟩
theorem Kind.mX {G G' : Gh} {id : Nat} {a b : lW} (h : Kind G G' id a b) (ha : a ≠ .free) : b ≠ .free ∧ G'.mX id = G.mX id := by
 cases a <;> cases b <;> simp_all [Kind]
theorem Kind.nf {G G' : Gh} {id : Nat} {a b : lW} (h : Kind G G' id a b) (ha : a ≠ .free) (hn : ∀ n sz, a ≠ .front n sz) : ∀ n sz, b ≠ .front n sz := by
 cases a <;> cases b <;> simp_all [Kind]
theorem Kind.cur {G G' : Gh} {id : Nat} {a b : lW} (h : Kind G G' id a b) (ha : a ≠ .free) (hn : ∀ n sz, a ≠ .front n sz) : vJ (G.cur id) ≤ vJ (G'.cur id) ∧ (vJ (G.cur id) = vJ (G'.cur id) → G'.cur id = G.cur id) := by
 cases a <;> cases b <;> simp_all [Kind]
theorem BJ.live {G G' : Gh} {h h' : kT} (m : BJ G h G' h') {id : Nat} (hl : live h id) : live h' id ∧ G'.mX id = G.mX id := by
 obtain ⟨bl, h1, h2⟩ := hl
 obtain ⟨bl', h3, h4⟩ := m.kinds id bl h1
 exact ⟨⟨bl', h3, (h4.mX h2).1⟩, (h4.mX h2).2⟩
theorem BJ.nf {G G' : Gh} {h h' : kT} (m : BJ G h G' h') {id : Nat} (hl : sG h id) : sG h' id ∧ vJ (G.cur id) ≤ vJ (G'.cur id) ∧ (vJ (G.cur id) = vJ (G'.cur id) → G'.cur id = G.cur id) := by
 obtain ⟨bl, h1, h2, h3⟩ := hl
 obtain ⟨bl', h4, h5⟩ := m.kinds id bl h1
 exact ⟨⟨bl', h4, (h5.mX h2).1, h5.nf h2 h3⟩, h5.cur h2 h3⟩
theorem lM.mono {G G' : Gh} {h h' : kT} (m : BJ G h G' h') {v : kR} {V : Value} (r : lM G h v V) : lM G' h' v V := by
 induction r with
 | p v V hp => exact .p v V (hp.mono m.hmono)
 | agg cs C hl _ ih => exact .agg cs C hl ih
 | tuple cs C hl _ ih => exact .tuple cs C hl ih
 | nil => exact .nil
 | own rows id n sz V hp hf hn hr hc =>
  obtain ⟨bl', h3, h4⟩ := m.kinds id _ hf
  cases bl' with
  | front n' sz' =>
   obtain ⟨h6, h7, _, h8⟩ := h4
   exact .own rows id n' sz' V (hp.mono m.hmono) h3 (by omega) (fun r hm => by rw [h8 (by have := List.length_pos_of_mem hm; omega)]; exact hr r hm)
    (fun e => by rw [h7 (by omega)]; exact hc (by omega))
  | vec tot sz' cs =>
   obtain rfl : rows = [] := List.eq_nil_of_length_eq_zero (by have := h4.1; omega)
   exact .ownv id V (hp.mono m.hmono) ⟨_, h3, by simp, by simp⟩
  | gone =>
   obtain rfl : rows = [] := List.eq_nil_of_length_eq_zero (by have := h4.1; omega)
   exact .ownv id V (hp.mono m.hmono) ⟨_, h3, by simp, by simp⟩
  | _ => exact h4.elim
 | ownv id V hp hb => exact .ownv id V (hp.mono m.hmono) (m.nf hb).1
 | vslice id tot off len sz b cap hl ht hc hv =>
  obtain ⟨h1, h2, h3⟩ := m.nf hl
  exact .vslice id tot off len sz b cap h1 (by omega) hc fun e => by rw [h3 (by omega)]; exact hv (by omega)
 | vptr id tot off b hl ht hv =>
  obtain ⟨h1, h2, h3⟩ := m.nf hl
  exact .vptr id tot off b h1 (by omega) fun e => by rw [h3 (by omega)]; exact hv (by omega)
 | ptr id off hl => obtain ⟨h1, h2⟩ := m.live hl; rw [← h2]; exact .ptr id off h1
 | mslice id off len sz cap hl hc => obtain ⟨h1, h2⟩ := m.live hl; rw [← h2]; exact .mslice id off len sz cap h1 hc
 | mslice0 id off sz cap a => exact .mslice0 id off sz cap a
 | map id hl => obtain ⟨h1, h2⟩ := m.live hl; rw [← h2]; exact .map id h1
 | func f first cap F C hlf hlc _ _ ihf ihc => exact .func f first cap F C hlf hlc ihf ihc
 | iface t v V _ ih => exact .iface t v V ih
end Hk


namespace Hk
open Go Go.RowKit
section inv
variable {G : Gh} {h : kT} {V : Value}
theorem lM.pE {k : IntKind} {n : Int} (r : lM G h (.int k n) V) : V = .int k n := by
 cases r with | p _ _ hp => cases hp; rfl
theorem lM.tT {b : Bool} (r : lM G h (.bool b) V) : V = .bool b := by
 cases r with | p _ _ hp => cases hp; rfl
theorem lM.wD {s : List UInt8} (r : lM G h (.str s) V) : V = .string ⟨s.toArray⟩ := by
 cases r with | p _ _ hp => cases hp; rfl
theorem lM.q9 {rows : List (List kR)} {t : Tok} (r : lM G h (.slice rows t) V) : o7 G.H (.slice rows .no) V := by
 cases r with
 | p _ _ hp =>
  cases hp with
  | slice0 a cap => exact .slice0 a cap
  | slice rows b off cap sz V hr hc hH hk hV => exact .slice rows b off cap sz V hr hc hH hk hV
 | nil => exact .slice0 none 0
 | own rows id n sz V hp hf hn hr hc => exact hp
 | ownv id V hp hb => exact hp
theorem lM.pP {id tot off len sz : Nat} (r : lM G h (.vslice id tot off len sz) V) : ∃ b cap, V = .slice (some ⟨b, off, none⟩) len cap ∧ sG h id ∧ tot ≤ vJ (G.cur id) ∧ len ≤ cap ∧
   (tot = vJ (G.cur id) → ∃ l cap0, G.cur id = .slice (some ⟨b, 0, none⟩) tot cap0 ∧ off = l * sz ∧ l + len ≤ tot ∧ cap = cap0 - l) := by
 cases r with
 | p _ _ hp => cases hp
 | vslice _ _ _ _ _ b cap hl ht hc hv => exact ⟨b, cap, rfl, hl, ht, hc, hv⟩
theorem lM.A_ {id tot off : Nat} (r : lM G h (.vptr id tot off) V) : ∃ b, V = .pointer (some ⟨b, off, none⟩) ∧ sG h id ∧ tot ≤ vJ (G.cur id) ∧ (tot = vJ (G.cur id) → ∃ cap0, G.cur id = .slice (some ⟨b, 0, none⟩) tot cap0) := by
 cases r with
 | p _ _ hp => cases hp
 | vptr _ _ _ b hl ht hv => exact ⟨b, rfl, hl, ht, hv⟩
theorem lM.tQ {cs : List kR} (r : lM G h (.agg cs) V) : ∃ C : Array Value, V = .agg C ∧ cs.length = C.size ∧ ∀ (i : Nat) (v : kR), cs[i]? = some v → lM G h v (C.getD i undef) := by
 cases r with
 | p _ _ hp => cases hp with | agg cs C hl hh => exact ⟨C, rfl, hl, fun i v hv => .p _ _ (hh i v hv)⟩
 | agg cs C hl hh => exact ⟨C, rfl, hl, hh⟩
theorem lM.zD {cs : List kR} (r : lM G h (.tuple cs) V) : ∃ C : Array Value, V = .tuple C ∧ cs.length = C.size ∧ ∀ (i : Nat) (v : kR), cs[i]? = some v → lM G h v (C.getD i undef) := by
 cases r with
 | p _ _ hp => cases hp with | tuple cs C hl hh => exact ⟨C, rfl, hl, fun i v hv => .p _ _ (hh i v hv)⟩
 | tuple cs C hl hh => exact ⟨C, rfl, hl, hh⟩
theorem lM.Np (r : lM G h (.tuple []) V) : V = undef := by
 obtain ⟨C, rfl, hl, _⟩ := r.zD
 have : C = #[] := Array.eq_empty_of_size_eq_zero hl.symm
 subst this; rfl
theorem lM.undef : lM G h (.tuple []) Go.undef := .p _ _ (.tuple [] #[] rfl (by simp))
theorem lM.xM {id off : Nat} (r : lM G h (.ptr id off) V) : V = .pointer (some ⟨G.mX id, off, none⟩) ∧ live h id := by
 cases r with
 | p _ _ hp => cases hp
 | ptr id off hl => exact ⟨rfl, hl⟩
theorem lM.Db {id : Nat} (r : lM G h (.map id) V) : V = .map (some (G.mX id)) ∧ live h id := by
 cases r with
 | p _ _ hp => cases hp
 | map id hl => exact ⟨rfl, hl⟩
theorem lM.Cq (r : lM G h .nilmap V) : V = .map none := by
 cases r with | p _ _ hp => cases hp; rfl
theorem lM.YT (r : lM G h .nilptr V) : V = .pointer none := by
 cases r with | p _ _ hp => cases hp; rfl
theorem lM.AW {cs : List kR} (r : lM G h (.pptr cs) V) : o7 G.H (.pptr cs) V := by
 cases r with | p _ _ hp => exact hp
theorem lM.w_ {id off len sz : Nat} (r : lM G h (.mslice id off len sz) V) :
  ∃ a cap, V = .slice a len cap ∧ len ≤ cap ∧ (0 < len → a = some ⟨G.mX id, off, none⟩ ∧ live h id) := by
 cases r with
 | p _ _ hp => cases hp
 | mslice id off len sz cap hl hc => exact ⟨_, cap, rfl, hc, fun _ => ⟨rfl, hl⟩⟩
 | mslice0 id off sz cap a => exact ⟨a, cap, rfl, Nat.zero_le _, fun hh => absurd hh (by omega)⟩
theorem lM.CZ {f : Nat} {first cap : List kR} (r : lM G h (.func f first cap) V) :
  ∃ F C : Array Value, V = .func (.func f) F C ∧ first.length = F.size ∧ cap.length = C.size ∧
   (∀ (i : Nat) (v : kR), first[i]? = some v → lM G h v (F.getD i Go.undef)) ∧ (∀ (i : Nat) (v : kR), cap[i]? = some v → lM G h v (C.getD i Go.undef)) := by
 cases r with
 | p _ _ hp => cases hp with | func f => exact ⟨#[], #[], rfl, rfl, rfl, by simp, by simp⟩
 | func f first cap F C hlf hlc hf hc => exact ⟨F, C, rfl, hlf, hlc, hf, hc⟩
theorem lM.Bn {t : Nat} {v : kR} (r : lM G h (.iface t v) V) : ∃ W, V = .iface t W ∧ lM G h v W := by
 cases r with
 | p _ _ hp => cases hp with | iface t v V hh => exact ⟨_, rfl, .p _ _ hh⟩
 | iface t v V hh => exact ⟨_, rfl, hh⟩
theorem lM.zT {v : kR} (r : lM G h v V) (hk : v.mC = true) : V.oneCell' = true ∧ V.cells = #[V] := by
 cases r with
 | p _ _ hp => cases hp <;> simp_all [kR.mC, Value.oneCell', Value.cells]
 | own _ _ _ _ _ hp => cases hp <;> simp [Value.oneCell', Value.cells]
 | ownv _ _ hp => cases hp <;> simp [Value.oneCell', Value.cells]
 | _ => simp_all [kR.mC, Value.oneCell', Value.cells]
theorem o7.zT {H : Nat → Nat → Option Value} {v : kR} (r : o7 H v V) (hk : v.mC = true) : V.oneCell' = true ∧ V.cells = #[V] := by
 cases r <;> simp_all [kR.mC, Value.oneCell', Value.cells]
end inv
theorem BZ (G : Gh) (h : kT) (v : Value) : lM G h (AR v) v := by
 unfold AR
 split
 ·exact .p _ _ (.bool _)
 ·exact .p _ _ (.int _ _)
 ·rename_i s
  have : (⟨s.data.toList.toArray⟩ : ByteArray) = s := by cases s; simp
  have r := lM.p (G := G) (h := h) _ _ (o7.str (H := G.H) s.data.toList)
  rw [this] at r; exact r
 ·exact .p _ _ .nilptr
 ·exact .nil
 ·exact .p _ _ .nilmap
 ·exact .p _ _ .nilfunc
 ·exact .p _ _ .niliface
 ·exact .p _ _ (.junk _)
theorem sH (G : Gh) (h : kT) (v : Value) : lM G h (ofConst v) v := by
 unfold ofConst
 split
 ·rename_i cs
  refine .agg _ _ (by simp) fun i u hu => ?_
  simp only [List.getElem?_map, Option.map_eq_some_iff, Array.getElem?_toList] at hu
  obtain ⟨x, hx, rfl⟩ := hu
  have : cs.getD i undef = x := by rw [Array.getD_eq_getD_getElem?, hx]; rfl
  rw [this]
  exact BZ G h x
 ·rename_i cs
  split
  ·rename_i hn
   have : cs = #[] := by cases cs; simp_all
   subst this
   exact .p _ _ (.tuple [] #[] rfl (by simp))
  ·exact .p _ _ (.junk _)
 ·exact BZ G h v
def p8 (A : Af) (H : Nat → Nat → Option Value) : Prop := ∀ g cs, A.glob g = some cs → o7 H (.pptr cs) (.pointer (some ⟨g, 0, none⟩))
theorem p8.mono {A : Af} {H H' : Nat → Nat → Option Value} (hh : ∀ b k v, H b k = some v → H' b k = some v) (g : p8 A H) : p8 A H' := fun i cs hc => (g i cs hc).mono hh
structure oC (J : Act → Prop) (G : Gh) (h : kT) (ρ : List kR) (a : Act) : Prop where
 len : ρ.length = a.tmps.size
 rel : ∀ (i : Nat) (v : kR), ρ[i]? = some v → lM G h v (a.tmps.getD i undef)
 df : J a
theorem oC.mono {J : Act → Prop} {G G' : Gh} {h h' : kT} {ρ : List kR} {a : Act} (s : oC J G h ρ a) (m : BJ G h G' h') : oC J G' h' ρ a :=
 ⟨s.len, fun i v hv => (s.rel i v hv).mono m, s.df⟩
theorem oC.get {J : Act → Prop} {G : Gh} {h : kT} {ρ : List kR} {a : Act} (s : oC J G h ρ a) (t : Nat) : lM G h (ρ.getD t .junk) (a.tmps.getD t undef) := by
 rw [List.getD_eq_getElem?_getD]
 cases hv : ρ[t]? with
 | none => exact .p _ _ (.junk _)
 | some v => exact s.rel t v hv
theorem oC.eval {J : Act → Prop} {A : Af} {G : Gh} {h : kT} {ρ : List kR} {a : Act} (s : oC J G h ρ a) (gl : p8 A G.H) (x : Operand) : lM G h (pZ A ρ x) (a.eval x) := by
 cases x with
 | tmp t => exact s.get t
 | const v => exact sH G h v
 | global g =>
  simp only [pZ]
  cases hg : A.glob g with
  | none => exact .p _ _ (.junk _)
  | some cs => exact .p _ _ (gl g cs hg)
 | func f => exact .p _ _ (.func f)
theorem oC.put {J : Act → Prop} {G : Gh} {h : kT} {ρ : List kR} {a : Act} (s : oC J G h ρ a) (dst : Option Tmp) {v : kR} {V : Value} (r : lM G h v V) (hj : J (a.put dst V)) : oC J G h (pG ρ dst v) (a.put dst V) := by
 cases dst with
 | none => exact s
 | some d =>
  refine ⟨by simp [pG, Act.put, s.len], fun i u hu => ?_, hj⟩
  simp only [pG, List.getElem?_set] at hu
  simp only [Act.put, Array.getD_eq_getD_getElem?, Array.getElem?_setIfInBounds]
  by_cases hdi : d = i
  ·subst hdi
   have hlt : d < ρ.length := by
    by_cases hlt : d < ρ.length
    ·exact hlt
    ·simp [hlt] at hu
   simp only [hlt, if_true] at hu
   cases hu
   rw [s.len] at hlt
   simpa [hlt] using r
  ·simp only [hdi, if_false] at hu ⊢
   simpa [Array.getD_eq_getD_getElem?] using s.rel i u hu
theorem Bf {G : Gh} {h : kT} {v : kR} {V : Value} (r : lM G h v V) (hk : v.cells.all kR.mC = true) :
  v.cells.length = V.cells.size ∧ ∀ (i : Nat) (u : kR), v.cells[i]? = some u → u.mC = true ∧ lM G h u (V.cells.getD i undef) := by
 by_cases ha : ∃ cs, v = .agg cs
 ·obtain ⟨cs, rfl⟩ := ha
  obtain ⟨C, rfl, hl, hr⟩ := r.tQ
  simp only [kR.cells, Value.cells] at *
  exact ⟨hl, fun i u hu => ⟨by simpa using List.all_eq_true.1 hk u (List.mem_of_getElem? hu), hr i u hu⟩⟩
 ·have hc : v.cells = [v] := by cases v <;> simp_all [kR.cells]
  rw [hc] at hk ⊢
  have hk' : v.mC = true := by simpa using hk
  obtain ⟨_, h2⟩ := r.zT hk'
  rw [h2]
  refine ⟨rfl, fun i u hu => ?_⟩
  cases i with
  | zero => simp at hu; subst hu; exact ⟨hk', by simpa using r⟩
  | succ i => simp at hu
end Hk


namespace Hk
open Go Go.RowKit
section
variable {P : Program} {G : Gh} {h : kT} {w : World} {x y v : kR} {X Y : Value}
theorem zL (op : BinOp) (t : TypeId) (xo yo : Operand) (X Y : Value) (hx : (∀ cs, X ≠ .agg cs) ∧ X ≠ .nilIface) : (eqGuard op t xo yo X Y).run P w = .ok () w := by
 obtain ⟨h1, h2⟩ := hx
 cases op <;> cases X <;> first
  | (exact absurd rfl (h1 _); done)
  | (exact absurd rfl h2; done)
  | (unfold eqGuard; simp [Sem.run_pure]; done)
  | (unfold eqGuard; simp [Sem.run_pure]; split <;> simp_all [Sem.run_pure]; done)
theorem nL {t : TypeId} {n : Nat} (hn : nY P t = some n) : (Go.sizeOf t).run P w = .ok n w := by
 unfold nY at hn
 cases hu : P.info? t with
 | none => simp [hu] at hn
 | some ti => simp [hu] at hn; simp [Go.sizeOf, Go.typeInfo, hu, hn]
theorem Cr {t : TypeId} {g : Bool} (hg : p9 P t = some g) : (isAgg t).run P w = .ok g w := by
 unfold p9 at hg
 cases hu : P.underlying t with
 | none => simp [hu] at hg
 | some d => cases d <;> simp_all [isAgg, run_underlying, Sem.run_pure]
theorem run_equalIn_bool {t : TypeId} (ht : P.underlying t = some .bool) (d : Nat) (a b : Bool) : (Op.equalIn (d + 1) t (.bool a) (.bool b)).run P w = .ok (a == b) w := by
 simp only [Op.equalIn, Sem.run_bind, run_underlying ht, Result.andThen_ok, Sem.run_pure]
theorem Fl {op : BinOp} (t : TypeId) (xo yo : Operand) (hb : kZ op x y = some v) (hx : lM G h x X) (hy : lM G h y Y) :
  ∃ V, (do eqGuard op t xo yo X Y; binOp op t X Y : Sem Value).run P w = .ok V w ∧ lM G h v V := by
 unfold kZ at hb
 split at hb
 ·rename_i k a k' b
  have := hx.pE; subst this
  have := hy.pE; subst this
  have hg := zL (P := P) (w := w) op t xo yo (.int k a) (.int k' b) (by simp)
  simp only [Sem.run_bind, hg, Result.andThen_ok]
  cases op <;> (try simp only at hb) <;> (try split at hb) <;> (try simp only [Option.some.injEq, reduceCtorEq] at hb)
  all_goals (try subst hb)
  all_goals (try (rename_i hk; simp only [ne_eq, Decidable.not_not] at hk; try subst hk))
  all_goals (try (split at hb))
  all_goals (try (cases hb; done))
  all_goals (try (simp only [Option.some.injEq] at hb; subst hb))
  all_goals refine ⟨_, ?_, .p _ _ (by first | exact .int _ _ | exact .bool _)⟩
  all_goals (try simp_all [binOp, Op.intArith, Op.intCmp, Op.intDiv, Op.intBits, Op.shift, Sem.run_pure])
  all_goals (intro hlt; omega)
 ·rename_i a b
  have := hx.wD; subst this
  have := hy.wD; subst this
  have hg := zL (P := P) (w := w) op t xo yo (.string ⟨a.toArray⟩) (.string ⟨b.toArray⟩) (by simp)
  simp only [Sem.run_bind, hg, Result.andThen_ok]
  cases op <;> simp only [reduceCtorEq] at hb <;> (try split at hb) <;> simp only [Option.some.injEq, reduceCtorEq] at hb
  all_goals subst hb
  ·rename_i hl
   refine ⟨.string (⟨a.toArray⟩ ++ ⟨b.toArray⟩), ?_, ?_⟩
   ·show (Op.stringOp .add _ _).run P w = _
    refine run_string_add_sum _ _ _ ?_
    show a.toArray.size + b.toArray.size ≤ _
    simp only [List.size_toArray]; omega
   ·have : (⟨a.toArray⟩ : ByteArray) ++ ⟨b.toArray⟩ = ⟨(a ++ b).toArray⟩ := by
     apply ByteArray.ext; simp
    rw [this]; exact .p _ _ (.str _)
  all_goals exact ⟨_, by simp [binOp, Op.stringOp, Sem.run_pure], .p _ _ (.bool _)⟩
 ·cases hb
theorem Kh {op : BinOp} {t : TypeId} (ht : P.underlying t = some .bool) (xo yo : Operand) (hb : Fh op x y = some v) (hx : lM G h x X) (hy : lM G h y Y) :
  ∃ V, (do eqGuard op t xo yo X Y; binOp op t X Y : Sem Value).run P w = .ok V w ∧ lM G h v V := by
 unfold Fh at hb
 split at hb
 all_goals first | (cases hb; done) | skip
 all_goals
  rename_i a b
  have := hx.tT; subst this
  have := hy.tT; subst this
  simp only [Option.some.injEq] at hb; subst hb
  refine ⟨_, ?_, .p _ _ (.bool _)⟩
  have he := run_equalIn_bool (P := P) (w := w) ht 9999 a b
  simp only [Sem.run_bind, zL (P := P) (w := w) _ t xo yo (.bool a) (.bool b) (by simp), Result.andThen_ok]
  simp only [binOp, Sem.run_bind, Op.equal, Op.maxDepth, he, Result.andThen_ok, Sem.run_pure]
theorem Ot {op : UnOp} (hb : yF op x = some v) (hx : lM G h x X) : ∃ V, (Op.unary op X).run P w = .ok V w ∧ lM G h v V := by
 unfold yF at hb
 split at hb
 all_goals first | (cases hb; done) | skip
 all_goals simp only [Option.some.injEq] at hb; subst hb
 ·have := hx.pE; subst this
  exact ⟨_, by simp [Op.unary, Op.intArith, Sem.run_pure], .p _ _ (.int _ _)⟩
 ·have := hx.pE; subst this
  exact ⟨_, by simp [Op.unary, Op.intBits, Sem.run_pure], .p _ _ (.int _ _)⟩
 ·have := hx.tT; subst this
  exact ⟨_, by simp [Op.unary, Sem.run_pure], .p _ _ (.bool _)⟩
theorem Fm {s d : TypeId} {k k0 : IntKind} (hs : P.underlying s = some (.int k0)) (hd : P.underlying d = some (.int k)) (hb : Az k x = some v) (hx : lM G h x X) :
  ∃ V, (convert s d X).run P w = .ok V w ∧ lM G h v V := by
 unfold Az at hb
 split at hb <;> simp only [Option.some.injEq, reduceCtorEq] at hb
 subst hb
 have := hx.pE; subst this
 exact ⟨_, by simp [convert, run_underlying hs, run_underlying hd, Conv.intToInt, Sem.run_pure], .p _ _ (.int _ _)⟩
theorem Ku {c a b : kR} {C A B : Value} (hb : lV c a b = some v) (hc : lM G h c C) (ha : lM G h a A) (hbb : lM G h b B) :
  ∃ V, ((do pure (.value (if ← asBool C then A else B))) : Sem Next).run P w = .ok (.value V) w ∧ lM G h v V := by
 unfold lV at hb
 split at hb <;> simp only [Option.some.injEq, reduceCtorEq] at hb
 rename_i g
 subst hb
 have := hc.tT; subst this
 refine ⟨bif g then A else B, ?_, by cases g <;> assumption⟩
 cases g <;> simp [asBool, Sem.run_pure]
theorem Fp {i : Nat} (hb : mF i x = some v) (hx : lM G h x X) : ∃ V, (Instr.extract X i).run P w = .ok V w ∧ lM G h v V := by
 unfold mF at hb
 split at hb
 ·obtain ⟨C, rfl, hl, hr⟩ := hx.zD
  have hlt : i < C.size := by rw [← hl]; exact (List.getElem?_eq_some_iff.1 hb).1
  refine ⟨C.getD i undef, ?_, hr i v hb⟩
  simp [Instr.extract, Array.getElem?_eq_getElem hlt, Sem.run_pure]
 ·cases hb
theorem xG {g : Bool} {n off : Nat} {cs : List kR} {C : Array Value} {t : TypeId} (hg : p9 P t = some g) (hn : nY P t = some n)
  (hb : apart g n cs off = some v) (hl : cs.length = C.size) (hr : ∀ (i : Nat) (u : kR), cs[i]? = some u → lM G h u (C.getD i undef)) :
  ∃ V, (part t C off).run P w = .ok V w ∧ lM G h v V := by
 have hagg := Cr (w := w) hg
 have hsz := nL (w := w) hn
 unfold apart at hb
 cases g with
 | true =>
  simp only [cond_true] at hb
  split at hb <;> simp only [Option.some.injEq, reduceCtorEq] at hb
  rename_i hle
  subst hb
  refine ⟨.agg (C.extract off (off + n)), ?_, .agg _ _ ?_ ?_⟩
  ·simp [part, hagg, hsz]
  ·simp; omega
  ·intro i u hu
   have hi : i < n := by
    have := (List.getElem?_eq_some_iff.1 hu).1
    simp at this; omega
   rw [List.getElem?_take, if_pos hi, List.getElem?_drop] at hu
   have := hr _ _ hu
   have hsz2 : off + i < C.size := by omega
   rw [Array.getD_eq_getD_getElem?] at this ⊢
   rw [Array.getElem?_extract, if_pos (by omega)]
   exact this
 | false =>
  simp only [cond_false] at hb
  have hlt : off < C.size := by rw [← hl]; exact (List.getElem?_eq_some_iff.1 hb).1
  exact ⟨C.getD off undef, by simp [part, hagg, Array.getElem?_eq_getElem hlt, Sem.run_pure], hr off v hb⟩
end
end Hk


namespace Hk
open Go Go.RowKit
section
variable {P : Program} {G : Gh} {h : kT} {w : World} {x y v : kR} {X Y : Value}
theorem II {t ft : TypeId} {fs : Array Field} {f : Nat} {fd : Field} {g : Bool} {n : Nat} (ht : P.underlying t = some (.struct fs)) (hf : fs[f]? = some fd)
  (hg : p9 P fd.type = some g) (hn : nY P fd.type = some n) (hb : AA g n fd.offset x = some v) (hx : lM G h x X) :
  ∃ V, (Instr.field t X f).run P w = .ok V w ∧ lM G h v V := by
 unfold AA at hb
 split at hb
 ·obtain ⟨C, rfl, hl, hr⟩ := hx.tQ
  obtain ⟨V, h1, h2⟩ := xG (w := w) hg hn hb hl hr
  exact ⟨V, by simp [Instr.field, run_underlying ht, hf, asAgg, h1, Sem.run_pure], h2⟩
 ·cases hb
theorem EE {t : TypeId} (ht : P.underlying t = some .string) (hb : rM x y = some v) (hx : lM G h x X) (hy : lM G h y Y) :
  ∃ V, (Instr.index t X Y).run P w = .ok V w ∧ lM G h v V := by
 unfold rM at hb
 split at hb
 ·rename_i s k n
  split at hb
  ·rename_i h0
   have := hx.wD; subst this
   have := hy.pE; subst this
   cases hs : s[n.toNat]? with
   | none => simp [hs] at hb
   | some b =>
    simp [hs] at hb; subst hb
    refine ⟨_, ?_, .p _ _ (.int _ _)⟩
    have hget : (⟨s.toArray⟩ : ByteArray)[n.toNat]? = some b := by
     have hlt : n.toNat < s.length := (List.getElem?_eq_some_iff.1 hs).1
     have hb2 : s[n.toNat] = b := (List.getElem?_eq_some_iff.1 hs).2
     have hsz : n.toNat < (⟨s.toArray⟩ : ByteArray).size := by show n.toNat < s.toArray.size; simpa using hlt
     rw [getElem?_pos (c := (⟨s.toArray⟩ : ByteArray)) (i := n.toNat) hsz]
     rw [← hb2]; rfl
    simp [Instr.index, asIntOf, run_underlying ht, h0, hget, Sem.run_pure]
  ·cases hb
 ·cases hb
theorem EC {t e : TypeId} {len sz : Nat} {g : Bool} (ht : P.underlying t = some (.array len e)) (hg : p9 P e = some g) (hn : nY P e = some sz)
  (hb : Dt g len sz x y = some v) (hx : lM G h x X) (hy : lM G h y Y) : ∃ V, (Instr.index t X Y).run P w = .ok V w ∧ lM G h v V := by
 unfold Dt at hb
 split at hb
 ·rename_i cs k n
  split at hb
  ·rename_i h0
   obtain ⟨C, rfl, hl, hr⟩ := hx.tQ
   have := hy.pE; subst this
   obtain ⟨V, h1, h2⟩ := xG (w := w) hg hn hb hl hr
   exact ⟨V, by simp [Instr.index, asIntOf, run_underlying ht, h0, nL hn, h1, Sem.run_pure], h2⟩
  ·cases hb
 ·cases hb
theorem Ea {b : Option kR} {B : Option Value} {dflt y0 n : Nat} {code : BoundsCode} (hb : oX b dflt = some n) (hle : n ≤ y0)
  (hr : ∀ u, b = some u → ∃ U, B = some U ∧ lM G h u U) (hnone : b = none → B = none) :
  (match B with | some U => Instr.sliceBound U y0 code | none => (pure dflt : Sem Nat)).run P w = .ok n w := by
 unfold oX at hb
 cases b with
 | none => rw [hnone rfl]; simp at hb; subst hb; simp [Sem.run_pure]
 | some u =>
  obtain ⟨U, rfl, hU⟩ := hr u rfl
  cases u <;> simp at hb
  rename_i k m
  obtain ⟨h0, rfl⟩ := hb
  have := hU.pE; subst this
  have : (0:Int) ≤ m ∧ m ≤ (y0 : Int) := ⟨h0, by omega⟩
  simp [Instr.sliceBound, asIntOf, this, Sem.run_pure]
theorem rK {isS : Bool} {lo hi : Option kR} {LO HI : Option Value} {len cap l u : Nat} (hlo : oX lo 0 = some l) (hhi : oX hi len = some u) (hlu : l ≤ u) (hlen : len ≤ cap) (huc : u ≤ cap)
  (hrl : ∀ a, lo = some a → ∃ U, LO = some U ∧ lM G h a U) (hnl : lo = none → LO = none) (hrh : ∀ a, hi = some a → ∃ U, HI = some U ∧ lM G h a U) (hnh : hi = none → HI = none) :
  (Instr.sliceBounds isS len cap LO HI none).run P w = .ok (l, u, cap) w := by
 have h1 := Ea (P := P) (w := w) (code := if isS then .sliceAcap else .sliceAlen) hhi huc hrh hnh
 have h2 := Ea (P := P) (w := w) (code := .sliceB) hlo hlu hrl hnl
 unfold Instr.sliceBounds
 cases HI with
 | none =>
  simp only [Sem.run_pure, Result.ok.injEq, and_true] at h1; subst h1
  cases LO with
  | none => simp only [Sem.run_pure, Result.ok.injEq, and_true] at h2; subst h2; simp [Sem.run_pure]
  | some L => simp only [] at h2; simp [h2, Sem.run_pure]
 | some Hh =>
  simp only [] at h1
  cases LO with
  | none => simp only [Sem.run_pure, Result.ok.injEq, and_true] at h2; subst h2; simp [h1, Sem.run_pure]
  | some L => simp only [] at h2; simp [h1, h2, Sem.run_pure]
theorem RQ {f : Operand → kR} {F : Operand → Value} (hf : ∀ o, lM G h (f o) (F o)) (o : Option Operand) :
  (∀ a, o.map f = some a → ∃ U, o.map F = some U ∧ lM G h a U) ∧ (o.map f = none → o.map F = none) := by
 cases o with
 | none => simp
 | some o => exact ⟨fun a ha => ⟨F o, rfl, by simp at ha; subst ha; exact hf o⟩, by simp⟩
section slices
variable {lo hi : Option kR} {LO HI : Option Value}
 (hrl : ∀ a, lo = some a → ∃ U, LO = some U ∧ lM G h a U) (hnl : lo = none → LO = none) (hrh : ∀ a, hi = some a → ∃ U, HI = some U ∧ lM G h a U) (hnh : hi = none → HI = none)
include hrl hnl hrh hnh
theorem EF {t : TypeId} (ht : P.underlying t = some .string) (hb : rN x lo hi = some v) (hx : lM G h x X) :
  ∃ V, (Instr.sliceAt t X LO HI none).run P w = .ok V w ∧ lM G h v V := by
 unfold rN at hb
 split at hb
 ·rename_i s
  have := hx.wD; subst this
  split at hb
  ·rename_i l u hl hu
   split at hb <;> simp only [Option.some.injEq, reduceCtorEq] at hb
   rename_i hlu
   subst hb
   have hsz : (⟨s.toArray⟩ : ByteArray).size = s.length := by show s.toArray.size = _; simp
   have hr := rK (P := P) (w := w) (isS := false) (len := s.length) (cap := s.length) hl hu hlu.1 (Nat.le_refl _) hlu.2 hrl hnl hrh hnh
   refine ⟨.string ((⟨s.toArray⟩ : ByteArray).extract l u), ?_, ?_⟩
   ·simp [Instr.sliceAt, run_underlying ht, Instr.slice, hsz, hr, Sem.run_pure]
   ·have : (⟨s.toArray⟩ : ByteArray).extract l u = ⟨((s.drop l).take (u - l)).toArray⟩ := by
     apply ByteArray.ext
     simp [ByteArray.data_extract]
    rw [this]; exact .p _ _ (.str _)
  ·cases hb
 ·cases hb
theorem Fy {t e : TypeId} {sz : Nat} (ht : P.underlying t = some (.slice e)) (hn : nY P e = some sz) (hb : nK sz x lo hi = some v) (hx : lM G h x X) :
  ∃ V, (Instr.sliceAt t X LO HI none).run P w = .ok V w ∧ lM G h v V := by
 unfold nK at hb
 split at hb
 ·rename_i rows tok
  have hp := hx.q9
  split at hb
  ·rename_i l u hl hu
   split at hb <;> simp only [Option.some.injEq, reduceCtorEq] at hb
   rename_i hlu
   obtain ⟨hlu1, hlu2, hall⟩ := hlu
   subst hb
   cases hp with
   | slice0 a cap =>
    simp only [List.length_nil, Nat.le_zero_eq] at hlu2
    subst hlu2
    have hl0 : l = 0 := by omega
    subst hl0
    have hr := rK (P := P) (w := w) (isS := true) (len := 0) (cap := cap) hl hu hlu1 (Nat.zero_le _) (Nat.zero_le _) hrl hnl hrh hnh
    refine ⟨.slice (if cap = 0 then a else a.map (·.add (0 * sz))) 0 cap, ?_, .p _ _ (by simp only [List.drop_nil, List.take_nil]; exact .slice0 _ _)⟩
    simp [Instr.sliceAt, run_underlying ht, Instr.slice, nL hn, hr, Sem.run_pure]
   | slice rows b off cap sz' V hr0 hc hH hk hV =>
    have hr := rK (P := P) (w := w) (isS := true) (len := rows.length) (cap := cap) hl hu hlu1 hc (by omega) hrl hnl hrh hnh
    refine ⟨.slice (if cap = l then some ⟨b, off, none⟩ else some (Addr.add ⟨b, off, none⟩ (l * sz))) (u - l) (cap - l), ?_, ?_⟩
    ·simp [Instr.sliceAt, run_underlying ht, Instr.slice, nL hn, hr, Sem.run_pure]
    ·have hlen : ((rows.drop l).take (u - l)).length = u - l := by simp; omega
     by_cases h0 : u - l = 0
     ·have : (rows.drop l).take (u - l) = [] := by rw [h0]; simp
      rw [this, h0]; exact .p _ _ (.slice0 _ _)
     ·have hcl : ¬ cap = l := by omega
      have hszz : sz' = sz := by
       have hm : rows[l]? = some rows[l] := List.getElem?_eq_getElem (by omega)
       have h1 := hr0 rows[l] (List.mem_of_getElem? hm)
       have h2 := List.all_eq_true.1 hall rows[l] (List.mem_of_getElem? hm)
       simp at h2; omega
      subst hszz
      rw [if_neg hcl]
      have hadd : Addr.add ⟨b, off, none⟩ (l * sz') = ⟨b, off + l * sz', none⟩ := by
       unfold Addr.add; split <;> simp_all
      rw [hadd]
      have hget : ∀ i (row : List kR), ((rows.drop l).take (u - l))[i]? = some row → rows[l + i]? = some row := by
       intro i row hi
       rw [List.getElem?_take] at hi
       split at hi
       ·rwa [List.getElem?_drop] at hi
       ·cases hi
      have hmem : ∀ r ∈ (rows.drop l).take (u - l), r.length = sz' := fun r hrm => hr0 r (List.mem_of_mem_drop (List.mem_of_mem_take hrm))
      generalize (rows.drop l).take (u - l) = R at hlen hget hmem
      rw [← hlen]
      refine .p _ _ (.slice R b (off + l * sz') (cap - l) sz' (fun k => V (l * sz' + k)) hmem (by rw [hlen]; omega) ?_ ?_ ?_)
      ·intro i j row v h1 h2
       have := hH (l + i) j row v (hget i row h1) h2
       rw [show off + l * sz' + (i * sz' + j) = off + ((l + i) * sz' + j) by rw [Nat.add_mul]; omega, this]
       congr 2; rw [Nat.add_mul]; omega
      ·intro i j row v h1 h2; exact hk (l + i) j row v (hget i row h1) h2
      ·intro i j row v h1 h2
       have := hV (l + i) j row v (hget i row h1) h2
       rw [show l * sz' + (i * sz' + j) = (l + i) * sz' + j by rw [Nat.add_mul]; omega]; exact this
  ·cases hb
 ·rename_i id off len sz'
  obtain ⟨a, cap, rfl, hlc, ha⟩ := hx.w_
  split at hb
  ·rename_i l u hl hu
   split at hb <;> simp only [Option.some.injEq, reduceCtorEq] at hb
   rename_i hlu
   obtain ⟨hlu1, hlu2, rfl⟩ := hlu
   subst hb
   have hr := rK (P := P) (w := w) (isS := true) (len := len) (cap := cap) hl hu hlu1 hlc (by omega) hrl hnl hrh hnh
   refine ⟨.slice (if cap = l then a else a.map (·.add (l * sz'))) (u - l) (cap - l), ?_, ?_⟩
   ·simp [Instr.sliceAt, run_underlying ht, Instr.slice, nL hn, hr, Sem.run_pure]
   ·by_cases h0 : u - l = 0
    ·rw [h0]; exact .mslice0 _ _ _ _ _
    ·obtain ⟨rfl, hlv⟩ := ha (by omega)
     rw [if_neg (by omega)]
     have hadd : Addr.add ⟨G.mX id, off, none⟩ (l * sz') = ⟨G.mX id, off + l * sz', none⟩ := by
      unfold Addr.add; split <;> simp_all
     simp only [Option.map_some, hadd]
     exact .mslice id _ _ sz' _ hlv (by omega)
  ·cases hb
 ·rename_i id tot off len sz'
  obtain ⟨b, cap, rfl, hnf, htot, hlc, hv⟩ := hx.pP
  split at hb
  ·rename_i l u hl hu
   split at hb
   case isFalse => cases hb
   rename_i hlu
   obtain ⟨hlu1, hlu2, rfl⟩ := hlu
   have hr := rK (P := P) (w := w) (isS := true) (len := len) (cap := cap) hl hu hlu1 hlc (by omega) hrl hnl hrh hnh
   have hrun : (Instr.sliceAt t (.slice (some ⟨b, off, none⟩) len cap) LO HI none).run P w = .ok (.slice (if cap = l then some ⟨b, off, none⟩ else (some (Addr.mk b off none)).map (·.add (l * sz'))) (u - l) (cap - l)) w := by
    simp [Instr.sliceAt, run_underlying ht, Instr.slice, nL hn, hr, Sem.run_pure]
   have hadd : Addr.add ⟨b, off, none⟩ (l * sz') = ⟨b, off + l * sz', none⟩ := by
    unfold Addr.add; split <;> simp_all
   split at hb <;> simp only [Option.some.injEq] at hb <;> subst hb
   ·rename_i hor
    refine ⟨_, hrun, ?_⟩
    have haddr : (if cap = l then some (Addr.mk b off none) else (some (Addr.mk b off none)).map (·.add (l * sz'))) = some ⟨b, off + l * sz', none⟩ := by
     split
     ·have : l = 0 := by omega
      subst this; simp
     ·simp only [Option.map_some, hadd]
    rw [haddr]
    refine .vslice id tot _ _ sz' b _ hnf htot (by omega) fun e => ?_
    obtain ⟨l0, cap0, h1, h2, h3, h4⟩ := hv e
    exact ⟨l0 + l, cap0, h1, by rw [h2, Nat.add_mul], by omega, by omega⟩
   ·rename_i hor
    have h0 : u - l = 0 := by omega
    refine ⟨_, hrun, ?_⟩
    rw [h0]; exact .p _ _ (.slice0 _ _)
  ·cases hb
 ·cases hb
end slices
theorem GY {t : TypeId} {ty : TypeId} (ht : P.underlying t = some .string) (hb : CN x = some v) (hx : lM G h x X) :
  ∃ V, (Builtin.len_ #[t] ty #[X]).run P w = .ok V w ∧ lM G h v V := by
 unfold CN at hb
 split at hb <;> simp only [Option.some.injEq, reduceCtorEq] at hb
 subst hb
 rename_i s
 have := hx.wD; subst this
 refine ⟨.int .i64 s.length, ?_, .p _ _ (.int _ _)⟩
 have hsz : (⟨s.toArray⟩ : ByteArray).size = s.length := by show s.toArray.size = _; simp
 simp [Builtin.len_, run_underlying ht, goInt, hsz, Sem.run_pure]
theorem IL {t : TypeId} {ty e : TypeId} (ht : P.underlying t = some (.slice e)) (hb : lN x = some v) (hx : lM G h x X) :
  ∃ V, (Builtin.len_ #[t] ty #[X]).run P w = .ok V w ∧ lM G h v V := by
 unfold lN at hb
 split at hb <;> simp only [Option.some.injEq, reduceCtorEq] at hb <;> subst hb
 ·rename_i rows tok
  have hp := hx.q9
  refine ⟨.int .i64 rows.length, ?_, .p _ _ (.int _ _)⟩
  cases hp <;> simp [Builtin.len_, run_underlying ht, goInt, Sem.run_pure]
 ·rename_i id off len sz
  obtain ⟨a, cap, rfl, _⟩ := hx.w_
  exact ⟨.int .i64 len, by simp [Builtin.len_, run_underlying ht, goInt, Sem.run_pure], .p _ _ (.int _ _)⟩
 ·rename_i id tot off len sz
  obtain ⟨a, cap, rfl, _⟩ := hx.pP
  exact ⟨.int .i64 len, by simp [Builtin.len_, run_underlying ht, goInt, Sem.run_pure], .p _ _ (.int _ _)⟩
theorem Kr (hb : Ah x y = some v) (hx : lM G h x X) (hy : lM G h y Y) : ∃ V, (Builtin.max2 X Y).run P w = .ok V w ∧ lM G h v V := by
 unfold Ah at hb
 split at hb <;> simp only [Option.some.injEq, reduceCtorEq] at hb
 subst hb
 have := hx.pE; subst this
 have := hy.pE; subst this
 exact ⟨_, by simp [Builtin.max2, Sem.run_pure], .p _ _ (.int _ _)⟩
theorem Ks (hb : wR x y = some v) (hx : lM G h x X) (hy : lM G h y Y) : ∃ V, (Builtin.min2 X Y).run P w = .ok V w ∧ lM G h v V := by
 unfold wR at hb
 split at hb <;> simp only [Option.some.injEq, reduceCtorEq] at hb
 subst hb
 have := hx.pE; subst this
 have := hy.pE; subst this
 exact ⟨_, by simp [Builtin.min2, Sem.run_pure], .p _ _ (.int _ _)⟩
theorem Fq {t : TypeId} {fs : Array Field} {f : Nat} {fd : Field} {n : Nat} (ht : P.underlying t = some (.struct fs)) (hf : fs[f]? = some fd)
  (hn : nY P fd.type = some (n + 1)) (hb : kU fd.offset x = some v) (hx : lM G h x X) :
  ∃ V, (Instr.fieldAt t X f).run P w = .ok V w ∧ lM G h v V := by
 have run : ∀ b off, (Instr.fieldAt t (.pointer (some ⟨b, off, none⟩)) f).run P w = .ok (.pointer (some (Addr.add ⟨b, off, none⟩ fd.offset))) w := by
  intro b off
  simp [Instr.fieldAt, run_underlying ht, hf, Instr.sureAddr, fieldPlace, nL hn, Sem.run_pure]
 have hadd : ∀ b off, Addr.add ⟨b, off, none⟩ fd.offset = ⟨b, off + fd.offset, none⟩ := by
  intro b off; unfold Addr.add; split <;> simp_all
 unfold kU at hb
 split at hb <;> simp only [Option.some.injEq, reduceCtorEq] at hb <;> subst hb
 ·rename_i id o
  obtain ⟨rfl, hl⟩ := hx.xM
  exact ⟨_, run _ _, by rw [hadd]; exact .ptr _ _ hl⟩
 ·rename_i id tot o
  obtain ⟨b, rfl, h1, h2, h3⟩ := hx.A_
  exact ⟨_, run _ _, by rw [hadd]; exact .vptr _ _ _ b h1 h2 h3⟩
 ·rename_i cs
  have hp := hx.AW
  cases hp with
  | pptr cs b off V hH hk hV =>
   refine ⟨_, run _ _, .p _ _ ?_⟩
   rw [hadd]
   refine .pptr _ b (off + fd.offset) (fun j => V (fd.offset + j)) ?_ ?_ ?_
   ·intro j v hj; rw [List.getElem?_drop] at hj; have := hH _ v hj; rw [← this]; congr 1; omega
   ·intro j v hj; rw [List.getElem?_drop] at hj; exact hk _ v hj
   ·intro j v hj; rw [List.getElem?_drop] at hj; exact hV _ v hj
theorem Fv {t e : TypeId} {sz : Nat} (ht : P.underlying t = some (.slice e)) (hn : nY P e = some sz) (hb : kY sz x y = some v) (hx : lM G h x X) (hy : lM G h y Y) :
  ∃ V, (Instr.indexAt t X Y).run P w = .ok V w ∧ lM G h v V := by
 have hadd : ∀ b off k, Addr.add ⟨b, off, none⟩ k = ⟨b, off + k, none⟩ := by
  intro b off k; unfold Addr.add; split <;> simp_all
 unfold kY at hb
 split at hb
 ·rename_i rows tok k n
  have := hy.pE; subst this
  split at hb
  ·rename_i h0
   split at hb
   ·rename_i row hrow
    split at hb <;> simp only [Option.some.injEq, reduceCtorEq] at hb
    rename_i hlen
    subst hb
    have hp := hx.q9
    have hlt : n.toNat < rows.length := (List.getElem?_eq_some_iff.1 hrow).1
    cases hp with
    | slice0 a cap => simp at hlt
    | slice rows b off cap sz' V hr hc hH hk hV =>
     have : sz' = sz := by rw [← hr row (List.mem_of_getElem? hrow), hlen]
     subst this
     have hcond : (0:Int) ≤ n ∧ n < (rows.length : Int) := ⟨h0, by omega⟩
     refine ⟨.pointer (some (Addr.add ⟨b, off, none⟩ (n.toNat * sz'))), ?_, .p _ _ ?_⟩
     ·simp [Instr.indexAt, asIntOf, run_underlying ht, hcond, nL hn, Sem.run_pure]
     ·rw [hadd]
      refine .pptr _ b _ (fun j => V (n.toNat * sz' + j)) ?_ ?_ ?_
      ·intro j v hj; rw [← hH _ j row v hrow hj]; congr 1; omega
      ·intro j v hj; exact hk _ j row v hrow hj
      ·intro j v hj; exact hV _ j row v hrow hj
   ·cases hb
  ·cases hb
 ·rename_i id off len sz' k n
  have := hy.pE; subst this
  split at hb <;> simp only [Option.some.injEq, reduceCtorEq] at hb
  rename_i hc
  obtain ⟨h0, hlt, rfl⟩ := hc
  subst hb
  obtain ⟨a, cap, rfl, hlc, ha⟩ := hx.w_
  obtain ⟨rfl, hlv⟩ := ha (by omega)
  refine ⟨.pointer (some (Addr.add ⟨G.mX id, off, none⟩ (n.toNat * sz'))), ?_, ?_⟩
  ·simp [Instr.indexAt, asIntOf, run_underlying ht, h0, hlt, nL hn, Sem.run_pure]
  ·rw [hadd]; exact .ptr _ _ hlv
 ·rename_i id tot off len sz' k n
  have := hy.pE; subst this
  split at hb <;> simp only [Option.some.injEq, reduceCtorEq] at hb
  rename_i hc
  obtain ⟨h0, hlt, rfl⟩ := hc
  subst hb
  obtain ⟨b, cap, rfl, hnf, htot, hlc, hv⟩ := hx.pP
  refine ⟨.pointer (some (Addr.add ⟨b, off, none⟩ (n.toNat * sz'))), ?_, ?_⟩
  ·simp [Instr.indexAt, asIntOf, run_underlying ht, h0, hlt, nL hn, Sem.run_pure]
  ·rw [hadd]
   refine .vptr _ _ _ b hnf htot fun e => ?_
   obtain ⟨l0, cap0, h1, _⟩ := hv e
   exact ⟨cap0, h1⟩
 ·cases hb
theorem Fu {t e : TypeId} {len sz : Nat} (ht : P.underlying t = some (.array len e)) (hn : nY P e = some sz) (hb : wO len sz x y = some v) (hx : lM G h x X) (hy : lM G h y Y) :
  ∃ V, (Instr.indexAt t X Y).run P w = .ok V w ∧ lM G h v V := by
 have hadd : ∀ b off k, Addr.add ⟨b, off, none⟩ k = ⟨b, off + k, none⟩ := by
  intro b off k; unfold Addr.add; split <;> simp_all
 unfold wO at hb
 split at hb
 ·rename_i id off k n
  have := hy.pE; subst this
  split at hb <;> simp only [Option.some.injEq, reduceCtorEq] at hb
  rename_i hc
  subst hb
  obtain ⟨rfl, hl⟩ := hx.xM
  refine ⟨.pointer (some (Addr.add ⟨G.mX id, off, none⟩ (n.toNat * sz))), ?_, ?_⟩
  ·simp [Instr.indexAt, asIntOf, run_underlying ht, Instr.sureAddr, hc, nL hn, Sem.run_pure]
  ·rw [hadd]; exact .ptr _ _ hl
 ·rename_i cs k n
  have := hy.pE; subst this
  split at hb <;> simp only [Option.some.injEq, reduceCtorEq] at hb
  rename_i hc
  subst hb
  have hp := hx.AW
  cases hp with
  | pptr cs b off V hH hk hV =>
   refine ⟨.pointer (some (Addr.add ⟨b, off, none⟩ (n.toNat * sz))), ?_, .p _ _ ?_⟩
   ·simp [Instr.indexAt, asIntOf, run_underlying ht, Instr.sureAddr, hc, nL hn, Sem.run_pure]
   ·rw [hadd]
    refine .pptr _ b _ (fun j => V (n.toNat * sz + j)) ?_ ?_ ?_
    ·intro j v hj; rw [List.getElem?_drop] at hj; rw [← hH _ v hj]; congr 1; omega
    ·intro j v hj; rw [List.getElem?_drop] at hj; exact hk _ v hj
    ·intro j v hj; rw [List.getElem?_drop] at hj; exact hV _ v hj
 ·cases hb
end
end Hk


namespace Hk
open Go Go.RowKit
theorem BS : ∀ {k1 k2 : List Kd} {x y : List kR} {b : Bool}, oD (k1 ++ k2) x y = some b →
  ∃ p q, oD k1 (x.take k1.length) (y.take k1.length) = some p ∧ oD k2 (x.drop k1.length) (y.drop k1.length) = some q ∧ b = (p && q)
 | [], k2, x, y, b, h => ⟨true, b, by simp [oD], by simpa using h, by simp⟩
 | k :: k1, k2, [], y, b, h => by simp [oD] at h
 | k :: k1, k2, _ :: _, [], b, h => by simp [oD] at h
 | k :: k1, k2, x :: xs, y :: ys, b, h => by
  simp only [List.cons_append, oD] at h
  split at h <;> simp only [Option.some.injEq, reduceCtorEq] at h
  rename_i u v hu hv
  obtain ⟨p, q, h1, h2, h3⟩ := BS hv
  exact ⟨u && p, q, by simp [oD, hu, h1], by simpa using h2, by rw [← h, h3, Bool.and_assoc]⟩
theorem Fo : ∀ {ks : List Kd} {x y : List kR} {b : Bool}, oD ks x y = some b → x.length = ks.length ∧ y.length = ks.length
 | [], [], [], _, _ => ⟨rfl, rfl⟩
 | [], _ :: _, _, _, h => by simp [oD] at h
 | [], [], _ :: _, _, h => by simp [oD] at h
 | _ :: _, [], _, _, h => by simp [oD] at h
 | _ :: _, _ :: _, [], _, h => by simp [oD] at h
 | k :: ks, x :: xs, y :: ys, b, h => by
  simp only [oD] at h
  split at h <;> simp only [Option.some.injEq, reduceCtorEq] at h
  rename_i u v hu hv
  obtain ⟨h1, h2⟩ := Fo hv
  simp [h1, h2]
def Rep (G : Gh) (h : kT) (g : Bool) (cx : List kR) (X : Value) : Prop :=
 match g with
 | true => ∃ C : Array Value, X = .agg C ∧ cx.length = C.size ∧ ∀ (i : Nat) (v : kR), cx[i]? = some v → lM G h v (C.getD i undef)
 | false => ∃ c, cx = [c] ∧ lM G h c X
section
variable {P : Program} {G : Gh} {h : kT} {w : World} {x y v : kR} {X Y : Value}
theorem Lc {t : TypeId} {g : Bool} {n off : Nat} {cx : List kR} {C : Array Value} (hg : p9 P t = some g) (hn : nY P t = some n) (h1 : g = false → n = 1)
  (hl : cx.length = C.size) (hr : ∀ (i : Nat) (v : kR), cx[i]? = some v → lM G h v (C.getD i undef)) (hle : off + n ≤ cx.length) :
  ∃ V, (part t C off).run P w = .ok V w ∧ Rep G h g ((cx.drop off).take n) V := by
 cases g with
 | true =>
  obtain ⟨V, e1, e2⟩ := xG (P := P) (w := w) (off := off) (v := .agg ((cx.drop off).take n)) hg hn (by simp [apart, hle]) hl hr
  exact ⟨V, e1, e2.tQ⟩
 | false =>
  have := h1 rfl; subst this
  have hlt : off < cx.length := by omega
  obtain ⟨V, e1, e2⟩ := xG (P := P) (w := w) (off := off) (v := cx[off]) hg hn (by simp [apart, hlt]) hl hr
  exact ⟨V, e1, cx[off], by rw [List.drop_eq_getElem_cons hlt, List.take_succ_cons, List.take_zero], e2⟩
theorem AH (P : Program) (G : Gh) (h : kT) (w : World) (d D : Nat)
  (ih : ∀ (t : TypeId) (ks : List Kd) (g : Bool) (cx cy : List kR) (X Y : Value) (b : Bool), tU P d t = some ks → p9 P t = some g → oD ks cx cy = some b →
   Rep G h g cx X → Rep G h g cy Y → (Op.equalIn D t X Y).run P w = .ok b w)
  {cx cy : List kR} {C E : Array Value} (hlx : cx.length = C.size) (hrx : ∀ (i : Nat) (v : kR), cx[i]? = some v → lM G h v (C.getD i undef))
  (hly : cy.length = E.size) (hry : ∀ (i : Nat) (v : kR), cy[i]? = some v → lM G h v (E.getD i undef)) :
  ∀ (fs : List Field) (off : Nat) (ks : List Kd) (b : Bool), yM P (tU P d) fs off = some ks → oD ks (cx.drop off) (cy.drop off) = some b →
   (Op.eqFields D C E fs).run P w = .ok b w
 | [], off, ks, b, hk, hb => by
  simp only [yM, Option.some.injEq] at hk; subst hk
  have : b = true := by
   generalize cx.drop off = a at hb; generalize cy.drop off = c at hb
   cases a <;> cases c <;> simp_all [oD]
  subst this
  simp [Op.eqFields, Sem.run_pure]
 | f :: fs, off, ks, b, hk, hb => by
  simp only [yM] at hk
  cases hnm : (f.name == "_" || f.offset != off) with
  | true => simp [hnm] at hk
  | false =>
   simp only [hnm, cond_false] at hk
   simp only [Bool.or_eq_false_iff, beq_eq_false_iff_ne, bne_eq_false_iff_eq] at hnm
   obtain ⟨hname, hoff⟩ := hnm
   split at hk
   ·rename_i k1 hk1
    cases hsz : (nY P f.type == some k1.length && k1.length != 0) with
    | false => simp [hsz] at hk
    | true =>
     simp only [hsz, cond_true] at hk
     simp only [Bool.and_eq_true, beq_iff_eq, bne_iff_ne, ne_eq] at hsz
     obtain ⟨hsz, hne⟩ := hsz
     split at hk <;> simp only [Option.some.injEq, reduceCtorEq] at hk
     rename_i k2 hk2
     subst hk
     obtain ⟨p, q, e1, e2, rfl⟩ := BS hb
     obtain ⟨l1, l2⟩ := Fo e1
     obtain ⟨g, hg⟩ : ∃ g, p9 P f.type = some g := by
      unfold p9
      cases d with
      | zero => simp [tU] at hk1
      | succ d =>
       simp only [tU] at hk1
       cases hu : P.underlying f.type with
       | none => simp [hu] at hk1
       | some dd => cases dd <;> simp
     have h1 : g = false → k1.length = 1 := by
      intro hgf; subst hgf
      cases d with
      | zero => simp [tU] at hk1
      | succ d =>
       simp only [tU] at hk1
       unfold p9 at hg
       cases hu : P.underlying f.type with
       | none => simp [hu] at hk1
       | some dd => cases dd <;> simp_all <;> subst hk1 <;> rfl
     have lx : off + k1.length ≤ cx.length := by rw [List.length_take, List.length_drop] at l1; omega
     have ly : off + k1.length ≤ cy.length := by rw [List.length_take, List.length_drop] at l2; omega
     obtain ⟨V1, p1, r1⟩ := Lc (w := w) (off := off) hg hsz h1 hlx hrx lx
     obtain ⟨V2, p2, r2⟩ := Lc (w := w) (off := off) hg hsz h1 hly hry ly
     have he := ih f.type k1 g _ _ V1 V2 p hk1 hg e1 r1 r2
     have hrest := AH P G h w d D ih hlx hrx hly hry fs (off + k1.length) k2 q hk2 (by simpa [List.drop_drop] using e2)
     simp only [Op.eqFields, hoff, ne_eq, hname, not_false_eq_true, if_true, Sem.run_bind, p1, p2, he, Result.andThen_ok, Sem.run_ite]
     cases p <;> simp [Sem.run_pure, hrest]
   ·cases hk
theorem BW (P : Program) (G : Gh) (h : kT) (w : World) : ∀ (d D : Nat), d ≤ D → ∀ (t : TypeId) (ks : List Kd) (g : Bool) (cx cy : List kR) (X Y : Value) (b : Bool),
  tU P d t = some ks → p9 P t = some g → oD ks cx cy = some b → Rep G h g cx X → Rep G h g cy Y → (Op.equalIn D t X Y).run P w = .ok b w
 | 0, _, _, _, _, _, _, _, _, _, _, hk, _, _, _, _ => by simp [tU] at hk
 | d + 1, 0, hd, _, _, _, _, _, _, _, _, _, _, _, _, _ => by omega
 | d + 1, D + 1, hd, t, ks, g, cx, cy, X, Y, b, hk, hg, hb, hx, hy => by
  simp only [tU] at hk
  have scal : g = false → ∀ k, ks = [k] → ∃ c c', cx = [c] ∧ cy = [c'] ∧ lM G h c X ∧ lM G h c' Y ∧ xE k c c' = some b := by
   intro hgf k hks; subst hgf; subst hks
   obtain ⟨c, rfl, hc⟩ := hx
   obtain ⟨c', rfl, hc'⟩ := hy
   refine ⟨c, c', rfl, rfl, hc, hc', ?_⟩
   simp only [oD] at hb
   split at hb <;> simp_all
  split at hk
  ·rename_i hu
   have hgf : g = false := by simpa [p9, hu] using hg.symm
   obtain ⟨c, c', rfl, rfl, hc, hc', he⟩ := scal hgf .b (by simpa using hk.symm)
   unfold xE at he
   split at he <;> simp_all
   have := hc.tT; subst this
   have := hc'.tT; subst this
   rw [run_equalIn_bool hu D]; simp_all
  ·rename_i k0 hu
   have hgf : g = false := by simpa [p9, hu] using hg.symm
   obtain ⟨c, c', rfl, rfl, hc, hc', he⟩ := scal hgf .i (by simpa using hk.symm)
   unfold xE at he
   split at he
   ·rename_i k a k' a'
    split at he <;> simp only [Option.some.injEq, reduceCtorEq] at he
    rename_i hkk; subst hkk; subst he
    have := hc.pE; subst this
    have := hc'.pE; subst this
    exact run_equalIn_int w D t _ _ _ _ hu
   ·simp_all
   ·simp_all
   ·cases he
  ·rename_i hu
   have hgf : g = false := by simpa [p9, hu] using hg.symm
   obtain ⟨c, c', rfl, rfl, hc, hc', he⟩ := scal hgf .s (by simpa using hk.symm)
   cases c <;> cases c' <;> simp only [xE, Option.some.injEq, reduceCtorEq] at he
   rename_i a a'
   subst he
   have := hc.wD; subst this
   have := hc'.wD; subst this
   have := run_equalIn_string (P := P) w D t ⟨a.toArray⟩ ⟨a'.toArray⟩ hu
   simpa using this
  ·rename_i fs hu
   have hgt : g = true := by simpa [p9, hu] using hg.symm
   subst hgt
   cases hst : P.stoodInHeld t with
   | true => simp [hst] at hk
   | false =>
    simp only [hst, cond_false] at hk
    obtain ⟨C, rfl, hlx, hrx⟩ := hx
    obtain ⟨E, rfl, hly, hry⟩ := hy
    have hfo : P.fieldsOf t = fs := by simp [Program.fieldsOf, hu]
    rw [run_equalIn_struct w D t C E (by rw [hfo]; exact hu) hst, hfo]
    exact AH P G h w d D (fun t ks g cx cy X Y b => BW P G h w d D (by omega) t ks g cx cy X Y b) hlx hrx hly hry fs.toList 0 ks b hk (by simpa using hb)
  ·cases hk
theorem Ee {t : TypeId} {ks : List Kd} {b : Bool} {fs : Array Field} (ht : P.underlying t = some (.struct fs)) (hk : CU P t = some ks) (xo yo : Operand)
  (hb : o_ ks x y = some b) (hx : lM G h x X) (hy : lM G h y Y) :
  (do eqGuard .eql t xo yo X Y; binOp .eql t X Y : Sem Value).run P w = .ok (.bool b) w ∧ (do eqGuard .neq t xo yo X Y; binOp .neq t X Y : Sem Value).run P w = .ok (.bool (!b)) w := by
 unfold CU at hk
 split at hk
 ·rename_i ks' hks
  cases hm : P.eqGuardType P.depth t with
  | true => simp [hm] at hk
  | false =>
   simp only [hm, cond_false, Option.some.injEq] at hk; subst hk
   unfold o_ at hb
   split at hb
   ·obtain ⟨C, rfl, hlx, hrx⟩ := hx.tQ
    obtain ⟨E, rfl, hly, hry⟩ := hy.tQ
    have he := BW P G h w 12 10000 (by omega) t ks' true _ _ (.agg C) (.agg E) b hks (by simp [p9, ht]) hb ⟨C, rfl, hlx, hrx⟩ ⟨E, rfl, hly, hry⟩
    constructor
    ·simp only [Sem.run_bind, run_eqGuard_agg w .eql t xo yo C E hm, Result.andThen_ok, run_eql_struct, he]
    ·simp only [Sem.run_bind, run_eqGuard_agg w .neq t xo yo C E hm, Result.andThen_ok, run_neq_struct, he]
   ·cases hb
 ·cases hk
end
end Hk


namespace Hk
open Go Go.RowKit
def mT (G : Gh) (id : Nat) : lW → Option Nat
 | .cells _ | .map _ => some (G.mX id)
 | .front _ _ | .vec _ _ _ => (G.cur id).ownBlock
 | _ => none
theorem m_ {G : Gh} {h : kT} {id : Nat} {bl : lW} (hb : h[id]? = some bl) : owner G h id = mT G id bl := by
 unfold owner; rw [hb]; cases bl <;> rfl
theorem oZ {G : Gh} {h : kT} {id b : Nat} (ho : owner G h id = some b) : ∃ bl, h[id]? = some bl ∧ mT G id bl = some b := by
 cases hb : h[id]? with
 | none => simp [owner, hb] at ho
 | some bl => exact ⟨bl, rfl, by rw [← m_ hb]; exact ho⟩
theorem vS.lt {G : Gh} {h : kT} {w : World} {id b : Nat} {bl : lW} (hk : vS G h w id bl) (ho : mT G id bl = some b) : b < w.heap.size := by
 have aux : ∀ {o : Obj}, w.heap[b]? = some o → b < w.heap.size := fun h => (Array.getElem?_eq_some_iff.1 h).1
 cases bl with
 | free => cases ho
 | gone => cases ho
 | cells cs => obtain ⟨C, e, h1, _⟩ := hk; cases ho; exact aux h1
 | map es => obtain ⟨E, c, h1, _⟩ := hk; cases ho; exact aux h1
 | front n sz =>
  rcases hk with ⟨_, h1⟩ | ⟨b', cap, C, e, h1, h2, _⟩
  ·simp [mT, h1, Value.ownBlock] at ho
  ·simp [mT, h1, Value.ownBlock] at ho; subst ho; exact aux h2
 | vec tot sz cs =>
  obtain ⟨b', cap, C, e, h1, h2, _⟩ := hk
  simp [mT, h1, Value.ownBlock] at ho; subst ho; exact aux h2
theorem Inv.lt {G : Gh} {h : kT} {w : World} (i : Inv G h w) {id b : Nat} (ho : owner G h id = some b) : b < w.heap.size := by
 obtain ⟨bl, hb, hob⟩ := oZ ho
 exact (i.mX id bl hb).lt hob
theorem vS.F0 {G G' : Gh} {h h' : kT} {w w' : World} {id : Nat} {bl : lW} (m : BJ G h G' h') (hblk : G'.mX id = G.mX id) (hcur : G'.cur id = G.cur id)
  (hh : ∀ b, mT G id bl = some b → w'.heap[b]? = w.heap[b]? ∧ ∀ k, G'.H b k = G.H b k) (hk : vS G h w id bl) : vS G' h' w' id bl := by
 cases bl with
 | free => trivial
 | gone => trivial
 | cells cs =>
  obtain ⟨C, e, h1, h2, h3, h4⟩ := hk
  obtain ⟨e1, e2⟩ := hh _ rfl
  exact ⟨C, e, by rw [hblk, e1, h1], h2, fun k => by rw [hblk, e2, h3], fun i v hv => ⟨(h4 i v hv).1, (h4 i v hv).2.mono m⟩⟩
 | map es =>
  obtain ⟨E, c, h1, h2, h3, h4, h5⟩ := hk
  obtain ⟨e1, e2⟩ := hh _ rfl
  refine ⟨E, c, by rw [hblk, e1, h1], h2, fun k => by rw [hblk, e2, h3], fun i kv hv => ?_, h5⟩
  obtain ⟨mm, a1, a2, a3, a4⟩ := h4 i kv hv
  exact ⟨mm, a1, a2, a3.mono m.hmono, a4.mono m⟩
 | front n sz =>
  rcases hk with ⟨h0, h1⟩ | ⟨b, cap, C, e, h1, h2, h3, h4, h5, h50, h6⟩
  ·exact .inl ⟨h0, by rw [hcur, h1]⟩
  ·obtain ⟨e1, e2⟩ := hh b (by simp [mT, h1, Value.ownBlock])
   exact .inr ⟨b, cap, C, e, by rw [hcur, h1], by rw [e1, h2], h3, h4, h5, h50, fun k hk => by rw [e2, h6 k hk]⟩
 | vec tot sz cs =>
  obtain ⟨b, cap, C, e, h1, h2, h3, h4, h5, h6, h7, h8, h9⟩ := hk
  obtain ⟨e1, e2⟩ := hh b (by simp [mT, h1, Value.ownBlock])
  exact ⟨b, cap, C, e, by rw [hcur, h1], by rw [e1, h2], h3, h4, h5, h6, h7, fun k => by rw [e2, h8 k], fun i v hv => ⟨(h9 i v hv).1, (h9 i v hv).2.mono m⟩⟩
theorem Inv.push {G G' : Gh} {h : kT} {ext : List lW} {w w' : World} (i : Inv G h w)
  (os : w'.os = w.os) (tape : w'.tape = w.tape) (output : w'.output = w.output) (size : w.heap.size ≤ w'.heap.size)
  (heap : ∀ k, k < w.heap.size → w'.heap[k]? = w.heap[k]?)
  (gblk : ∀ id, id < h.length → G'.mX id = G.mX id) (gcur : ∀ id, id < h.length → G'.cur id = G.cur id)
  (hH : ∀ b k v, G.H b k = some v → G'.H b k = some v) (hHold : ∀ b k, b < w.heap.size → G'.H b k = G.H b k)
  (hok : ∀ b k v, w.heap.size ≤ b → G'.H b k = some v → w'.cell? ⟨b, k, none⟩ = some v)
  (hnew : ∀ j bl, ext[j]? = some bl → BJ G h G' (h ++ ext) → vS G' (h ++ ext) w' (h.length + j) bl)
  (hown : ∀ j bl b, ext[j]? = some bl → mT G' (h.length + j) bl = some b → w.heap.size ≤ b)
  (hinj : ∀ j j' bl bl' b, ext[j]? = some bl → ext[j']? = some bl' → mT G' (h.length + j) bl = some b → mT G' (h.length + j') bl' = some b → j = j') :
  Inv G' (h ++ ext) w' ∧ Ext G h w G' (h ++ ext) w' := by
 have m : BJ G h G' (h ++ ext) := ⟨hH, fun id bl hb => by
  have hlt : id < h.length := (List.getElem?_eq_some_iff.1 hb).1
  refine ⟨bl, by rw [List.getElem?_append_left hlt]; exact hb, ?_⟩
  have e1 := gblk id hlt
  have e2 := gcur id hlt
  cases bl <;> simp [Kind, e1, e2]⟩
 have hget : ∀ id bl, (h ++ ext)[id]? = some bl → (id < h.length ∧ h[id]? = some bl) ∨ (h.length ≤ id ∧ ext[id - h.length]? = some bl) := by
  intro id bl hb
  by_cases hlt : id < h.length
  ·rw [List.getElem?_append_left hlt] at hb; exact .inl ⟨hlt, hb⟩
  ·rw [List.getElem?_append_right (by omega)] at hb; exact .inr ⟨by omega, hb⟩
 have own : ∀ id b, owner G' (h ++ ext) id = some b → (id < h.length ∧ owner G h id = some b) ∨ (h.length ≤ id ∧ w.heap.size ≤ b ∧ ∃ bl, ext[id - h.length]? = some bl ∧ mT G' id bl = some b) := by
  intro id b ho
  obtain ⟨bl, hb, hob⟩ := oZ ho
  rcases hget id bl hb with ⟨hlt, h1⟩ | ⟨hge, h1⟩
  ·refine .inl ⟨hlt, ?_⟩
   rw [m_ h1]
   cases bl <;> simp_all [mT]
  ·have he : h.length + (id - h.length) = id := by omega
   exact .inr ⟨hge, hown _ bl b h1 (by rw [he]; exact hob), bl, h1, hob⟩
 refine ⟨⟨?_, ?_, ?_⟩, ⟨os, tape, output, size, fun b hb _ => ⟨heap b hb, fun k => hHold b k hb⟩, hH, ?_, m.kinds⟩⟩
 ·intro b k v hv
  by_cases hb : b < w.heap.size
  ·rw [hHold b k hb] at hv
   rw [World.cell?_of_block (w := w) (heap b hb)]
   exact i.ok b k v hv
  ·exact hok b k v (by omega) hv
 ·intro id bl hb
  rcases hget id bl hb with ⟨hlt, h1⟩ | ⟨hge, h1⟩
  ·refine (i.mX id bl h1).F0 m (gblk id hlt) (gcur id hlt) fun b ho => ?_
   have hb := (i.mX id bl h1).lt ho
   exact ⟨heap b hb, fun k => hHold b k hb⟩
  ·have := hnew (id - h.length) bl h1 m
   rwa [show h.length + (id - h.length) = id by omega] at this
 ·intro x y b hx hy
  rcases own x b hx with ⟨_, h1⟩ | ⟨hx1, hx2, bl, hx3, hx4⟩ <;> rcases own y b hy with ⟨_, h2⟩ | ⟨hy1, hy2, bl', hy3, hy4⟩
  ·exact i.inj x y b h1 h2
  ·have := i.lt h1; omega
  ·have := i.lt h2; omega
  ·have := hinj (x - h.length) (y - h.length) bl bl' b hx3 hy3 (by rw [show h.length + (x - h.length) = x by omega]; exact hx4) (by rw [show h.length + (y - h.length) = y by omega]; exact hy4)
   omega
 ·intro id b ho hb
  rcases own id b ho with ⟨_, h1⟩ | ⟨_, h2, _⟩
  ·exact h1
  ·omega
theorem Inv.step {G G' : Gh} {h : kT} {w w' : World} (i : Inv G h w) (id : Nat) (old new : lW) (hold : h[id]? = some old)
  (os : w'.os = w.os) (tape : w'.tape = w.tape) (output : w'.output = w.output) (size : w.heap.size ≤ w'.heap.size)
  (heap : ∀ k, k < w.heap.size → mT G id old ≠ some k → w'.heap[k]? = w.heap[k]?)
  (gblk : ∀ j, j ≠ id → G'.mX j = G.mX j) (gcur : ∀ j, j ≠ id → G'.cur j = G.cur j)
  (hH : ∀ b k v, G.H b k = some v → G'.H b k = some v) (hHold : ∀ b k, b < w.heap.size → mT G id old ≠ some b → G'.H b k = G.H b k)
  (hok : ∀ b k v, (w.heap.size ≤ b ∨ mT G id old = some b) → G'.H b k = some v → w'.cell? ⟨b, k, none⟩ = some v)
  (hkind : Kind G G' id old new)
  (hnew : BJ G h G' (h.set id new) → vS G' (h.set id new) w' id new)
  (hown : ∀ b, mT G' id new = some b → w.heap.size ≤ b ∨ mT G id old = some b) :
  Inv G' (h.set id new) w' ∧ Ext G h w G' (h.set id new) w' := by
 have hlt : id < h.length := (List.getElem?_eq_some_iff.1 hold).1
 have hsame : (h.set id new)[id]? = some new := by simp [hlt]
 have hne : ∀ j, j ≠ id → (h.set id new)[j]? = h[j]? := fun j hj => List.getElem?_set_ne (Ne.symm hj)
 have m : BJ G h G' (h.set id new) := ⟨hH, fun j bl hb => by
  by_cases hj : j = id
  ·subst hj; rw [hold] at hb; cases hb; exact ⟨new, hsame, hkind⟩
  ·refine ⟨bl, by rw [hne j hj]; exact hb, ?_⟩
   have e1 := gblk j hj
   have e2 := gcur j hj
   cases bl <;> simp [Kind, e1, e2]⟩
 have own : ∀ j b, owner G' (h.set id new) j = some b → (j ≠ id ∧ owner G h j = some b) ∨ (j = id ∧ (w.heap.size ≤ b ∨ owner G h id = some b)) := by
  intro j b ho
  by_cases hj : j = id
  ·subst hj
   rw [m_ hsame] at ho
   exact .inr ⟨rfl, by rw [m_ hold]; exact hown b ho⟩
  ·refine .inl ⟨hj, ?_⟩
   obtain ⟨bl, hb, hob⟩ := oZ ho
   rw [hne j hj] at hb
   rw [m_ hb]
   have e1 := gblk j hj
   have e2 := gcur j hj
   cases bl <;> simp_all [mT]
 refine ⟨⟨?_, ?_, ?_⟩, ⟨os, tape, output, size, fun b hb hn => ?_, hH, ?_, m.kinds⟩⟩
 ·intro b k v hv
  by_cases hb : b < w.heap.size ∧ mT G id old ≠ some b
  ·rw [hHold b k hb.1 hb.2] at hv
   rw [World.cell?_of_block (w := w) (heap b hb.1 hb.2)]
   exact i.ok b k v hv
  ·refine hok b k v ?_ hv
   by_cases h1 : w.heap.size ≤ b
   ·exact .inl h1
   ·exact .inr (Classical.byContradiction fun h2 => hb ⟨by omega, h2⟩)
 ·intro j bl hb
  by_cases hj : j = id
  ·subst hj; rw [hsame] at hb; cases hb; exact hnew m
  ·rw [hne j hj] at hb
   refine (i.mX j bl hb).F0 m (gblk j hj) (gcur j hj) fun b ho => ?_
   have h1 := (i.mX j bl hb).lt ho
   have h2 : mT G id old ≠ some b := fun e => hj (i.inj j id b (by rw [m_ hb]; exact ho) (by rw [m_ hold]; exact e))
   exact ⟨heap b h1 h2, fun k => hHold b k h1 h2⟩
 ·intro x y b hx hy
  rcases own x b hx with ⟨hx1, h1⟩ | ⟨rfl, h1⟩ <;> rcases own y b hy with ⟨hy1, h2⟩ | ⟨rfl, h2⟩
  ·exact i.inj x y b h1 h2
  ·rcases h2 with h2 | h2
   ·have := i.lt h1; omega
   ·exact i.inj x y b h1 h2
  ·rcases h1 with h1 | h1
   ·have := i.lt h2; omega
   ·exact i.inj x y b h1 h2
  ·rfl
 ·have : mT G id old ≠ some b := fun e => hn id (by rw [m_ hold]; exact e)
  exact ⟨heap b hb this, fun k => hHold b k hb this⟩
 ·intro j b ho hb
  rcases own j b ho with ⟨_, h1⟩ | ⟨rfl, h1 | h1⟩
  ·exact h1
  ·omega
  ·exact h1
end Hk


namespace Hk
open Go Go.RowKit
theorem add_plain (b off k : Nat) : Addr.add ⟨b, off, none⟩ k = ⟨b, off + k, none⟩ := by unfold Addr.add; split <;> simp_all
theorem qO {h : kT} {id tot : Nat} {x : Nat × List kR} (hg : nA h id tot = some x) : h[id]? = some (.vec tot x.1 x.2) := by
 unfold nA at hg
 split at hg
 ·rename_i tot' sz cs hid
  split at hg
  ·rename_i he; cases hg; rw [hid, he]
  ·cases hg
 ·cases hg
theorem Ef {h : kT} {id : Nat} {cs : List kR} (hg : nJ h id = some cs) : h[id]? = some (.cells cs) := by
 unfold nJ at hg
 split at hg <;> simp_all
section
variable {P : Program} {G : Gh} {h : kT} {w : World} {x y v : kR} {X Y V : Value}
theorem cell_of (w : World) (g i : Nat) {C : Array Value} {t : TypeId} {fr : Nat × Nat} (hg : w.heap[g]? = some (.cells C t fr)) : w.cell? ⟨g, i, none⟩ = C[i]? := by
 simp [World.cell?, hg]
theorem z6 {t : TypeId} {g : Bool} {n : Nat} (hg : p9 P t = some g) (hn : nY P t = some n) (b o : Nat) (cs : List kR) (off : Nat) (F : Nat → Value)
  (hb : apart g n cs off = some v) (hc : ∀ (j : Nat) (u : kR), cs[j]? = some u → off ≤ j → w.cell? ⟨b, o + (j - off), none⟩ = some (F j) ∧ lM G h u (F j)) :
  ∃ V, (loadVar t ⟨b, o, none⟩).run P w = .ok V w ∧ lM G h v V := by
 unfold apart at hb
 cases g with
 | true =>
  simp only [cond_true] at hb
  split at hb <;> simp only [Option.some.injEq, reduceCtorEq] at hb
  rename_i hle
  subst hb
  have hl := run_loadCells (P := P) w ⟨b, o, none⟩ n (fun j => F (off + j)) (fun j hj => by
   have hj' : cs[off + j]? = some cs[off + j] := List.getElem?_eq_getElem (by omega)
   have := (hc (off + j) _ hj' (by omega)).1
   rw [add_plain]
   rwa [show off + j - off = j by omega] at this)
  refine ⟨.agg ((List.range n).map fun j => F (off + j)).toArray, ?_, .agg _ _ ?_ ?_⟩
  ·simp [loadVar, Cr hg, nL hn, hl, Sem.run_pure]
  ·simp; omega
  ·intro i u hu
   rw [List.getElem?_take] at hu
   split at hu
   ·rename_i hi
    rw [List.getElem?_drop] at hu
    have := (hc (off + i) u hu (by omega)).2
    simpa [Array.getD_eq_getD_getElem?, hi] using this
   ·cases hu
 | false =>
  simp only [cond_false] at hb
  obtain ⟨h1, h2⟩ := hc off v hb (Nat.le_refl _)
  refine ⟨F off, ?_, h2⟩
  rw [Nat.sub_self, Nat.add_zero] at h1
  simp [loadVar, Cr hg, run_load, h1]
theorem D_ {t : TypeId} {g : Bool} {n : Nat} (hg : p9 P t = some g) (hn : nY P t = some n) (i : Inv G h w) (hb : kV g n h x = some v) (hx : lM G h x X) :
  ∃ V, (Instr.loadAt t X).run P w = .ok V w ∧ lM G h v V := by
 unfold kV at hb
 split at hb
 ·rename_i cs
  have hp := hx.AW
  cases hp with
  | pptr cs b off F hH hk hV =>
   obtain ⟨V, h1, h2⟩ := z6 (P := P) (G := G) (h := h) (w := w) hg hn b off cs 0 F hb (fun j u hu _ => ⟨i.ok _ _ _ (hH j u hu), .p _ _ (hV j u hu)⟩)
   exact ⟨V, by simp [Instr.loadAt, Instr.sureAddr, h1], h2⟩
 ·rename_i id off
  split at hb
  ·rename_i cs hgb
   unfold nJ at hgb
   split at hgb <;> simp only [Option.some.injEq, reduceCtorEq] at hgb
   rename_i cs' hid
   subst hgb
   obtain ⟨rfl, _⟩ := hx.xM
   obtain ⟨C, e, h1, h2, h3, h4⟩ := i.mX id _ hid
   obtain ⟨V, r1, r2⟩ := z6 (P := P) (G := G) (h := h) (w := w) hg hn (G.mX id) off cs' off (fun j => C.getD j undef) hb (fun j u hu hj => by
    have hlt : j < C.size := by rw [h2]; exact (List.getElem?_eq_some_iff.1 hu).1
    refine ⟨?_, (h4 j u hu).2⟩
    rw [cell_of w _ _ h1, show off + (j - off) = j by omega, Array.getElem?_eq_getElem hlt]
    simp [Array.getD_eq_getD_getElem?, hlt])
   exact ⟨V, by simp [Instr.loadAt, Instr.sureAddr, r1], r2⟩
  ·cases hb
 ·rename_i id tot off
  split at hb
  ·rename_i x hgb
   have hid := qO hgb
   obtain ⟨tot, hX, h1, h2, h3⟩ := hx.A_
   obtain ⟨b, cap, C, e, g1, g2, g3, g4, g5, g6, g7, g8, g9⟩ := i.mX id _ hid
   obtain ⟨cap0, h4⟩ := h3 (by rw [g1]; rfl)
   rw [g1] at h4
   simp only [Value.slice.injEq, Option.some.injEq, Addr.mk.injEq] at h4
   obtain ⟨⟨rfl, _⟩, _, rfl⟩ := h4
   subst hX
   obtain ⟨V, r1, r2⟩ := z6 (P := P) (G := G) (h := h) (w := w) hg hn b off x.2 off (fun j => C.getD j undef) hb (fun j u hu hj => by
    have hlt : j < C.size := by
     have := (List.getElem?_eq_some_iff.1 hu).1
     rw [g5]
     exact Nat.lt_of_lt_of_le (by rw [g7] at this; exact this) (Nat.mul_le_mul_right _ g3)
    refine ⟨?_, (g9 j u hu).2⟩
    rw [cell_of w _ _ g2, show off + (j - off) = j by omega, Array.getElem?_eq_getElem hlt]
    simp [Array.getD_eq_getD_getElem?, hlt])
   exact ⟨V, by simp [Instr.loadAt, Instr.sureAddr, r1], r2⟩
  ·cases hb
 ·cases hb
theorem rJ (cs vs : List kR) (off : Nat) (h : off + vs.length ≤ cs.length) : (putCells cs off vs).length = cs.length := by
 simp [putCells]; omega
theorem tW (cs vs : List kR) (off i : Nat) (h : off + vs.length ≤ cs.length) :
  (putCells cs off vs)[i]? = if i < off then cs[i]? else if i < off + vs.length then vs[i - off]? else cs[i]? := by
 unfold putCells
 by_cases h1 : i < off
 ·rw [if_pos h1, List.append_assoc, List.getElem?_append_left (by simp; omega), List.getElem?_take, if_pos h1]
 ·rw [if_neg h1, List.append_assoc, List.getElem?_append_right (by simp; omega)]
  simp only [List.length_take]
  rw [Nat.min_eq_left (by omega)]
  by_cases h2 : i < off + vs.length
  ·rw [if_pos h2, List.getElem?_append_left (by omega)]
  ·rw [if_neg h2, List.getElem?_append_right (by omega), List.getElem?_drop]
   congr 1; omega
theorem rI (C : Array Value) (U : List Value) (off i : Nat) (h : off + U.length ≤ C.size) :
  (C.toList.take off ++ U ++ C.toList.drop (off + U.length)).toArray[i]? = if i < off then C[i]? else if i < off + U.length then U[i - off]? else C[i]? := by
 rw [List.getElem?_toArray]
 by_cases h1 : i < off
 ·rw [if_pos h1, List.append_assoc, List.getElem?_append_left (by simp; omega), List.getElem?_take, if_pos h1, Array.getElem?_toList]
 ·rw [if_neg h1, List.append_assoc, List.getElem?_append_right (by simp; omega)]
  simp only [List.length_take, Array.length_toList]
  rw [Nat.min_eq_left (by omega)]
  by_cases h2 : i < off + U.length
  ·rw [if_pos h2, List.getElem?_append_left (by omega)]
  ·rw [if_neg h2, List.getElem?_append_right (by omega), List.getElem?_drop, Array.getElem?_toList]
   congr 1; omega
theorem Inv.write (i : Inv G h w) {id off : Nat} {cs vs : List kR} {C : Array Value} {e : TypeId} {U : List Value} (hid : h[id]? = some (.cells cs))
  (hC : w.heap[G.mX id]? = some (.cells C e (0, 0))) (hle : off + vs.length ≤ cs.length) (hU : U.length = vs.length)
  (hrel : ∀ (j : Nat) (u : kR), vs[j]? = some u → u.mC = true ∧ lM G h u (U.getD j undef)) :
  Inv G (h.set id (.cells (putCells cs off vs))) (w.setRow (G.mX id) (C.toList.take off ++ U ++ C.toList.drop (off + U.length)).toArray) ∧
   Ext G h w G (h.set id (.cells (putCells cs off vs))) (w.setRow (G.mX id) (C.toList.take off ++ U ++ C.toList.drop (off + U.length)).toArray) := by
 obtain ⟨C', e', h1, h2, h3, h4⟩ := i.mX id _ hid
 rw [hC] at h1
 simp only [Option.some.injEq, Obj.cells.injEq] at h1
 obtain ⟨rfl, rfl, _⟩ := h1
 refine i.step id (.cells cs) _ hid (by simp) (by simp) (by simp) (by simp) ?_ (fun _ _ => rfl) (fun _ _ => rfl) (fun _ _ _ hh => hh) (fun _ _ _ _ => rfl) ?_ ?_ ?_ ?_
 ·intro k _ hk
  exact setRow_other w _ k _ (fun e => hk (by simp [mT, e]))
 ·intro b k v hb hv
  rcases hb with hb | hb
  ·have := i.ok b k v hv
   have hlt : b < w.heap.size := by
    unfold World.cell? at this
    cases hh : w.heap[b]? with
    | none => simp [hh] at this
    | some o => exact (Array.getElem?_eq_some_iff.1 hh).1
   omega
  ·simp only [mT, Option.some.injEq] at hb
   subst hb
   rw [h3] at hv; cases hv
 ·exact ⟨(rJ cs vs off hle).symm, rfl, rfl⟩
 ·intro m
  have hoff : off + U.length ≤ C.size := by rw [hU, h2]; exact hle
  refine ⟨_, e, setRow_heap w _ C _ e _ hC, ?_, h3, fun j u hu => ?_⟩
  ·rw [rJ cs vs off hle]; simp; omega
  ·rw [tW cs vs off j hle] at hu
   rw [Array.getD_eq_getD_getElem?, rI C U off j hoff]
   split at hu
   ·rename_i hj
    rw [if_pos hj]
    exact ⟨(h4 j u hu).1, by have := (h4 j u hu).2.mono m; rwa [Array.getD_eq_getD_getElem?] at this⟩
   ·rename_i hj
    rw [if_neg hj]
    split at hu
    ·rename_i hj2
     rw [if_pos (by rw [hU]; exact hj2)]
     obtain ⟨a1, a2⟩ := hrel _ u hu
     refine ⟨a1, ?_⟩
     have := a2.mono m
     rwa [List.getD_eq_getElem?_getD] at this
    ·rename_i hj2
     rw [if_neg (by rw [hU]; exact hj2)]
     exact ⟨(h4 j u hu).1, by have := (h4 j u hu).2.mono m; rwa [Array.getD_eq_getD_getElem?] at this⟩
 ·intro b hb
  exact .inr hb
theorem Inv.GR (i : Inv G h w) {id tot sz off b cap : Nat} {cs vs : List kR} {C : Array Value} {e : TypeId} {U : List Value} (hid : h[id]? = some (.vec tot sz cs))
  (hcur : G.cur id = .slice (some ⟨b, 0, none⟩) tot cap) (hC : w.heap[b]? = some (.cells C e (0, 0))) (hle : off + vs.length ≤ cs.length) (hU : U.length = vs.length)
  (hrel : ∀ (j : Nat) (u : kR), vs[j]? = some u → u.mC = true ∧ lM G h u (U.getD j undef)) :
  Inv G (h.set id (.vec tot sz (putCells cs off vs))) (w.setRow b (C.toList.take off ++ U ++ C.toList.drop (off + U.length)).toArray) ∧
   Ext G h w G (h.set id (.vec tot sz (putCells cs off vs))) (w.setRow b (C.toList.take off ++ U ++ C.toList.drop (off + U.length)).toArray) := by
 obtain ⟨b', cap', C', e', g1, g2, g3, g4, g5, g6, g7, g8, g9⟩ := i.mX id _ hid
 rw [hcur] at g1
 simp only [Value.slice.injEq, Option.some.injEq, Addr.mk.injEq] at g1
 obtain ⟨⟨rfl, _⟩, _, rfl⟩ := g1
 rw [hC] at g2
 simp only [Option.some.injEq, Obj.cells.injEq] at g2
 obtain ⟨rfl, rfl, _⟩ := g2
 have hown : mT G id (.vec tot sz cs) = some b := by simp [mT, hcur, Value.ownBlock]
 have hcl : cs.length ≤ C.size := by rw [g7, g5]; exact Nat.mul_le_mul_right _ g3
 refine i.step id (.vec tot sz cs) _ hid (by simp) (by simp) (by simp) (by simp) ?_ (fun _ _ => rfl) (fun _ _ => rfl) (fun _ _ _ hh => hh) (fun _ _ _ _ => rfl) ?_ ?_ ?_ ?_
 ·intro k _ hk
  exact setRow_other w _ k _ (fun e => hk (by rw [hown, e]))
 ·intro b' k v hb hv
  rcases hb with hb | hb
  ·have := i.ok b' k v hv
   have hlt : b' < w.heap.size := by
    unfold World.cell? at this
    cases hh : w.heap[b']? with
    | none => simp [hh] at this
    | some o => exact (Array.getElem?_eq_some_iff.1 hh).1
   omega
  ·rw [hown] at hb
   cases hb
   rw [g8] at hv; cases hv
 ·exact ⟨rfl, Nat.le_refl _, fun _ => rfl⟩
 ·intro m
  have hoff : off + U.length ≤ C.size := by omega
  refine ⟨b, cap, _, e, hcur, setRow_heap w _ C _ e _ hC, g3, g4, by simp; omega, g6, by rw [rJ cs vs off hle]; exact g7, g8, fun j u hu => ?_⟩
  rw [tW cs vs off j hle] at hu
  rw [Array.getD_eq_getD_getElem?, rI C U off j hoff]
  split at hu
  ·rename_i hj
   rw [if_pos hj]
   exact ⟨(g9 j u hu).1, by have := (g9 j u hu).2.mono m; rwa [Array.getD_eq_getD_getElem?] at this⟩
  ·rename_i hj
   rw [if_neg hj]
   split at hu
   ·rename_i hj2
    rw [if_pos (by rw [hU]; exact hj2)]
    obtain ⟨a1, a2⟩ := hrel _ u hu
    refine ⟨a1, ?_⟩
    have := a2.mono m
    rwa [List.getD_eq_getElem?_getD] at this
   ·rename_i hj2
    rw [if_neg (by rw [hU]; exact hj2)]
    exact ⟨(g9 j u hu).1, by have := (g9 j u hu).2.mono m; rwa [Array.getD_eq_getD_getElem?] at this⟩
 ·intro b' hb
  exact .inr (by rw [hown]; simpa [mT, hcur, Value.ownBlock] using hb)
theorem Mo {o v u : kR} (hu : sJ h o v = u) : u = v ∨ (v = .slice [] .nil ∧ ∃ id, u = .slice [] (.own id) ∧ h[id]? = some (.front 0 0)) := by
 unfold sJ at hu
 cases hn : v.isNil with
 | false => rw [hn] at hu; exact .inl hu.symm
 | true =>
  rw [hn] at hu
  simp only [cond_true] at hu
  have hv : v = .slice [] .nil := by
   unfold kR.isNil at hn
   split at hn
   ·rfl
   ·cases hn
  split at hu
  ·rename_i id
   split at hu
   ·rename_i hf; exact .inr ⟨hv, id, hu.symm, hf⟩
   ·exact .inl hu.symm
  ·exact .inl hu.symm
theorem wZ : ∀ {os vs : List kR}, (pV h os vs).length = vs.length
 | [], _ => by simp [pV]
 | _ :: _, [] => by simp [pV]
 | _ :: os, _ :: vs => by simp [pV, wZ (os := os) (vs := vs)]
theorem Ei : ∀ {os vs : List kR} {j : Nat} {u : kR}, (pV h os vs)[j]? = some u → ∃ v, vs[j]? = some v ∧ (u = v ∨ (v = .slice [] .nil ∧ ∃ id, u = .slice [] (.own id) ∧ h[id]? = some (.front 0 0)))
 | [], vs, j, u, hu => ⟨u, by simpa [pV] using hu, .inl rfl⟩
 | _ :: _, [], j, u, hu => by simp [pV] at hu
 | o :: os, v :: vs, 0, u, hu => by
  simp only [pV, List.getElem?_cons_zero, Option.some.injEq] at hu
  exact ⟨v, rfl, Mo hu⟩
 | o :: os, v :: vs, j + 1, u, hu => by
  simp only [pV, List.getElem?_cons_succ] at hu
  obtain ⟨v', h1, h2⟩ := Ei hu
  exact ⟨v', by simpa using h1, h2⟩
theorem Rc (i : Inv G h w) {u v : kR} {V : Value} (hk : u = v ∨ (v = .slice [] .nil ∧ ∃ id, u = .slice [] (.own id) ∧ h[id]? = some (.front 0 0))) (hc : v.mC = true) (hr : lM G h v V) : u.mC = true ∧ lM G h u V := by
 rcases hk with rfl | ⟨rfl, id, rfl, hf⟩
 ·exact ⟨hc, hr⟩
 ·have hb := i.mX id _ hf
  have hV : V = .slice none 0 0 := by
   cases hr with
   | p _ _ hp => cases hp
   | nil => rfl
  have hcur : G.cur id = .slice none 0 0 := by
   rcases hb with ⟨_, h1⟩ | ⟨b, cap, C, e, h1, h2, h3, h4, h5, h6, _⟩
   ·exact h1
   ·omega
  subst hV
  exact ⟨rfl, .own [] id 0 0 _ (.slice0 none 0) hf (Nat.le_refl _) (by simp) fun _ => hcur.symm⟩
theorem CP {t : TypeId} {n : Nat} {h' : kT} (hn : nY P t = some n) (i : Inv G h w) (hb : lU n h x y = some h') (hx : lM G h x X) (hy : lM G h y Y) :
  ∃ w', (Instr.storeAt t X Y).run P w = .ok () w' ∧ Inv G h' w' ∧ Ext G h w G h' w' := by
 unfold lU at hb
 split at hb
 ·rename_i id off
  cases hgb : nJ h id with
  | none => simp [hgb] at hb
  | some cs' =>
   have hid := Ef hgb
   simp only [hgb] at hb
   obtain ⟨z, hz, hzr⟩ : ∃ z : kR, y.cells = z.cells ∧ lM G h z Y := ⟨_, rfl, hy⟩
   rw [hz] at hb
   split at hb
   case isFalse => cases hb
   rename_i hcond
   obtain ⟨hlen, hle, hall⟩ := hcond
   injection hb with hb
   subst hb
   obtain ⟨rfl, _⟩ := hx.xM
   obtain ⟨C, e, h1, h2, h3, h4⟩ := i.mX id _ hid
   obtain ⟨c1, c2⟩ := Bf hzr hall
   have hU : Y.cells.toList.length = z.cells.length := by rw [Array.length_toList, c1]
   have h1c : ∀ u ∈ Y.cells.toList, u.oneCell' = true := by
    intro u hu
    obtain ⟨j, hj⟩ := List.getElem?_of_mem hu
    have hjl : j < z.cells.length := by rw [← hU]; exact (List.getElem?_eq_some_iff.1 hj).1
    obtain ⟨a1, a2⟩ := c2 j _ (List.getElem?_eq_getElem hjl)
    have hval : Y.cells.getD j undef = u := by rw [Array.getD_eq_getD_getElem?, ← Array.getElem?_toList, hj]; rfl
    rw [hval] at a2
    exact (a2.zT a1).1
   have hst := run_storeCells_at P (G.mX id) off e Y.cells.toList 0 C w h1 (by rw [Array.length_toList, h2]; omega) h1c
   simp only [Nat.add_zero] at hst
   have hw := i.write (off := off) (vs := pV h (cs'.drop off) z.cells) (U := Y.cells.toList) hid h1 (by rw [wZ]; omega) (by rw [wZ]; exact hU) (fun j u hu => by
    obtain ⟨v, hv, hk⟩ := Ei hu
    obtain ⟨a1, a2⟩ := c2 j v hv
    rw [List.getD_eq_getElem?_getD, Array.getElem?_toList]
    rw [Array.getD_eq_getD_getElem?] at a2
    exact Rc i hk a1 a2)
   refine ⟨_, ?_, hw⟩
   have hsz : Y.cells.size = n := by omega
   simp [Instr.storeAt, Instr.sureAddr, storeVar, nL hn, hsz, hst]
 ·rename_i id tot off
  cases hgb : nA h id tot with
  | none => simp [hgb] at hb
  | some x0 =>
   have hid := qO hgb
   simp only [hgb] at hb
   obtain ⟨z, hz, hzr⟩ : ∃ z : kR, y.cells = z.cells ∧ lM G h z Y := ⟨_, rfl, hy⟩
   rw [hz] at hb
   split at hb
   case isFalse => cases hb
   rename_i hcond
   obtain ⟨hlen, hle, hall⟩ := hcond
   injection hb with hb
   subst hb
   obtain ⟨b, hX, _, _, h3⟩ := hx.A_
   obtain ⟨b', cap, C, e, g1, g2, g3, g4, g5, g6, g7, g8, g9⟩ := i.mX id _ hid
   obtain ⟨cap0, h4⟩ := h3 (by rw [g1]; rfl)
   have h4' := h4
   rw [g1] at h4
   simp only [Value.slice.injEq, Option.some.injEq, Addr.mk.injEq] at h4
   obtain ⟨⟨rfl, _⟩, _, rfl⟩ := h4
   subst hX
   obtain ⟨c1, c2⟩ := Bf hzr hall
   have hU : Y.cells.toList.length = z.cells.length := by rw [Array.length_toList, c1]
   have h1c : ∀ u ∈ Y.cells.toList, u.oneCell' = true := by
    intro u hu
    obtain ⟨j, hj⟩ := List.getElem?_of_mem hu
    have hjl : j < z.cells.length := by rw [← hU]; exact (List.getElem?_eq_some_iff.1 hj).1
    obtain ⟨a1, a2⟩ := c2 j _ (List.getElem?_eq_getElem hjl)
    have hval : Y.cells.getD j undef = u := by rw [Array.getD_eq_getD_getElem?, ← Array.getElem?_toList, hj]; rfl
    rw [hval] at a2
    exact (a2.zT a1).1
   have hcl : x0.2.length ≤ C.size := by rw [g7, g5]; exact Nat.mul_le_mul_right _ g3
   have hst := run_storeCells_at P b' off e Y.cells.toList 0 C w g2 (by rw [Array.length_toList]; omega) h1c
   simp only [Nat.add_zero] at hst
   have hw := i.GR (off := off) (vs := z.cells) (U := Y.cells.toList) hid h4' g2 (by omega) hU (fun j u hu => by
    obtain ⟨a1, a2⟩ := c2 j u hu
    rw [List.getD_eq_getElem?_getD, Array.getElem?_toList]
    rw [Array.getD_eq_getD_getElem?] at a2
    exact ⟨a1, a2⟩)
   refine ⟨_, ?_, hw⟩
   have hsz : Y.cells.size = n := by omega
   simp [Instr.storeAt, Instr.sureAddr, storeVar, nL hn, hsz, hst]
 ·cases hb
end
end Hk


namespace Hk
open Go Go.RowKit
theorem Inv.Av {G : Gh} {h : kT} {w : World} (i : Inv G h w) {b k : Nat} {v : Value} (hv : G.H b k = some v) : b < w.heap.size := by
 have := i.ok b k v hv
 unfold World.cell? at this
 cases hh : w.heap[b]? with
 | none => simp [hh] at this
 | some o => exact (Array.getElem?_eq_some_iff.1 hh).1
theorem Inv.Dq {G : Gh} {h : kT} {w : World} (i : Inv G h w) {b k : Nat} (hb : w.heap.size ≤ b) : G.H b k = none := by
 cases hv : G.H b k with
 | none => rfl
 | some v => have := i.Av hv; omega
theorem yD : ∀ (vs : List kR) (k : Nat), (mV k vs).1.length = vs.length ∧ (∀ (j : Nat) (b : lW), (mV k vs).2[j]? = some b → b = .front 0 0) ∧
  ∀ (j : Nat) (c : kR), (mV k vs).1[j]? = some c → vs[j]? = some c ∨ (vs[j]? = some (.slice [] .nil) ∧ ∃ id, k ≤ id ∧ c = .slice [] (.own id) ∧ (mV k vs).2[id - k]? = some (.front 0 0))
 | [], k => by simp [mV]
 | v :: r, k => by
  by_cases hv : v = .slice [] .nil
  ·subst hv
   obtain ⟨h1, h2, h3⟩ := yD r (k + 1)
   simp only [mV]
   refine ⟨by simp [h1], ?_, ?_⟩
   ·intro j b hb
    cases j with
    | zero => simp at hb; exact hb.symm
    | succ j => exact h2 j b (by simpa using hb)
   ·intro j c hc
    cases j with
    | zero => simp at hc; subst hc; exact .inr ⟨rfl, k, Nat.le_refl _, rfl, by simp⟩
    | succ j =>
     rcases h3 j c (by simpa using hc) with h4 | ⟨h4, id, h5, h6, h7⟩
     ·exact .inl (by simpa using h4)
     ·refine .inr ⟨by simpa using h4, id, by omega, h6, ?_⟩
      rw [show id - k = (id - (k + 1)) + 1 by omega]
      simpa using h7
  ·have he : mV k (v :: r) = (v :: (mV k r).1, (mV k r).2) := by
    rw [mV]
    exact hv
   obtain ⟨h1, h2, h3⟩ := yD r k
   rw [he]
   refine ⟨by simp [h1], h2, ?_⟩
   intro j c hc
   cases j with
   | zero => simp at hc; subst hc; exact .inl rfl
   | succ j =>
    rcases h3 j c (by simpa using hc) with h4 | ⟨h4, h5⟩
    ·exact .inl (by simpa using h4)
    ·exact .inr ⟨by simpa using h4, h5⟩
section
variable {P : Program} {G : Gh} {h : kT} {w : World} {x y v : kR} {X Y V : Value}
theorem lM.Jy (r : lM G h (.slice [] .nil) V) : V = .slice none 0 0 := by
 cases r with
 | p _ _ hp => cases hp
 | nil => rfl
def Gh.add (G : Gh) (n b : Nat) : Gh := { G with mX := fun i => if i = n then b else G.mX i, cur := fun i => if n < i then .slice none 0 0 else G.cur i }
theorem nP (w : World) (o : Obj) (k : Nat) (hk : k < w.heap.size) : (w.alloc o).heap[k]? = w.heap[k]? := Below.heap_alloc w o k hk
theorem Inv.new (i : Inv G h w) {n : Nat} {v p : kR} {h' : kT} {Z : Value} (t : TypeId) (hb : nG n h v = some (p, h')) (hr : lM G h v Z) :
  ∃ G', Inv G' h' (w.alloc (.cells Z.cells t)) ∧ Ext G h w G' h' (w.alloc (.cells Z.cells t)) ∧ lM G' h' p (.pointer (some ⟨w.heap.size, 0, none⟩)) ∧ Z.cells.size = n := by
 unfold nG at hb
 simp only [] at hb
 split at hb
 case isFalse => cases hb
 rename_i hcond
 obtain ⟨hlen, hall⟩ := hcond
 simp only [Option.some.injEq, Prod.mk.injEq] at hb
 obtain ⟨rfl, rfl⟩ := hb
 obtain ⟨c1, c2⟩ := Bf hr hall
 obtain ⟨t1, t2, t3⟩ := yD v.cells (h.length + 1)
 have hsz : Z.cells.size = n := by omega
 refine ⟨G.add h.length w.heap.size, ?_⟩
 have key := i.push (G' := G.add h.length w.heap.size) (ext := .cells (mV (h.length + 1) v.cells).1 :: (mV (h.length + 1) v.cells).2) (w' := w.alloc (.cells Z.cells t))
  rfl rfl rfl (by simp) (fun k hk => nP w _ k hk) (fun id hid => by simp [Gh.add]; omega) (fun id hid => by simp [Gh.add]; omega) (fun _ _ _ hh => hh) (fun _ _ _ => rfl)
  (fun b k v hb hv => by have := i.Av (b := b) (k := k) (v := v) hv; omega)
  (fun j bl hj m => by
   cases j with
   | zero =>
    simp at hj; subst hj
    refine ⟨Z.cells, t, by simp only [Gh.add, Nat.add_zero, if_true]; exact heap_alloc_new w _, by omega, fun k => by simp only [Gh.add, Nat.add_zero, if_true]; exact i.Dq (Nat.le_refl _), fun j u hu => ?_⟩
    rcases t3 j u hu with h4 | ⟨h4, id, h5, h6, h7⟩
    ·exact ⟨(c2 j u h4).1, (c2 j u h4).2.mono m⟩
    ·subst h6
     obtain ⟨_, hz⟩ := c2 j _ h4
     have hz := hz.Jy
     refine ⟨rfl, ?_⟩
     rw [hz]
     refine .own [] id 0 0 _ (.slice0 none 0) ?_ (Nat.le_refl _) (by simp) (fun _ => by simp only [Gh.add]; rw [if_pos (by omega)])
     rw [List.getElem?_append_right (by omega), show id - h.length = (id - (h.length + 1)) + 1 by omega]
     simpa using h7
   | succ j =>
    have hj' := t2 j bl (by simpa using hj)
    subst hj'
    exact .inl ⟨rfl, by simp only [Gh.add]; rw [if_pos (by omega)]⟩)
  (fun j bl b hj ho => by
   cases j with
   | zero => simp at hj; subst hj; simp only [mT, Gh.add, Nat.add_zero, if_true, Option.some.injEq] at ho; omega
   | succ j =>
    have hj' := t2 j bl (by simpa using hj)
    subst hj'
    simp only [mT, Gh.add] at ho
    rw [if_pos (by omega)] at ho
    cases ho)
  (fun j j' bl bl' b hj hj' ho ho' => by
   have : ∀ j bl, (lW.cells (mV (h.length + 1) v.cells).1 :: (mV (h.length + 1) v.cells).2)[j]? = some bl → mT (G.add h.length w.heap.size) (h.length + j) bl = some b → j = 0 := by
    intro j bl hj ho
    cases j with
    | zero => rfl
    | succ j =>
     have hj' := t2 j bl (by simpa using hj)
     subst hj'
     simp only [mT, Gh.add] at ho
     rw [if_pos (by omega)] at ho
     cases ho
   rw [this j bl hj ho, this j' bl' hj' ho'])
 refine ⟨key.1, key.2, ?_, hsz⟩
 have hp := lM.ptr (G := G.add h.length w.heap.size) (h := h ++ .cells (mV (h.length + 1) v.cells).1 :: (mV (h.length + 1) v.cells).2) h.length 0
  ⟨.cells (mV (h.length + 1) v.cells).1, by simp, by simp⟩
 simpa [Gh.add] using hp
theorem LR {t : TypeId} {n : Nat} {p : kR} {h' : kT} (i : Inv G h w) (hb : nG n h x = some (p, h')) (hx : lM G h x X) :
  ∃ V w' G', (Instr.box t X).run P w = .ok V w' ∧ Inv G' h' w' ∧ Ext G h w G' h' w' ∧ lM G' h' p V := by
 obtain ⟨G', h1, h2, h3, _⟩ := i.new t hb hx
 exact ⟨_, _, G', by simp [Instr.box, newVar, newRow, Sem.run_pure], h1, h2, h3⟩
theorem pU {t : TypeId} {z : kR} (hz : qH P t = some z) : ∃ Z, (zeroValue t).run P w = .ok Z w ∧ lM G h z Z := by
 unfold qH at hz
 cases hi : P.info? t with
 | none => simp [hi] at hz
 | some ti =>
  cases hzz : ti.zero with
  | none => simp [hi, hzz] at hz
  | some Z =>
   simp [hi, hzz] at hz; subst hz
   exact ⟨Z, by simp [zeroValue, Go.typeInfo, hi, hzz, Sem.run_pure], sH G h Z⟩
theorem ID {t : TypeId} {n : Nat} {z p : kR} {h' : kT} (i : Inv G h w) (hz : qH P t = some z) (hb : nG n h z = some (p, h')) :
  ∃ V w' G', (Instr.alloc t true (.tuple #[])).run P w = .ok V w' ∧ Inv G' h' w' ∧ Ext G h w G' h' w' ∧ lM G' h' p V := by
 obtain ⟨Z, hz1, hz2⟩ := pU (P := P) (G := G) (h := h) (w := w) hz
 obtain ⟨G', h1, h2, h3, _⟩ := i.new t hb hz2
 refine ⟨_, _, G', ?_, h1, h2, h3⟩
 simp [Instr.alloc, hz1, newVar, newRow, Sem.run_pure]
end
end Hk


namespace Hk
open Go Go.RowKit
theorem HH (off : Nat) : ∀ (us : List Value) (k : Nat) (C : Array Value), off + k + us.length ≤ C.size →
  ((us.zipIdx k).foldl (fun (cs : Array Value) p => cs.setIfInBounds (off + p.2) p.1) C) = (C.toList.take (off + k) ++ us ++ C.toList.drop (off + k + us.length)).toArray
 | [], k, C, _ => by simp
 | u :: us, k, C, hl => by
  simp only [List.zipIdx_cons, List.foldl_cons]
  rw [HH off us (k + 1) (C.setIfInBounds (off + k) u) (by simp at hl ⊢; omega)]
  congr 1
  have e := list_seg_step C.toList (off + k) u us (by simp at hl ⊢; omega)
  simpa [Array.toList_setIfInBounds, Nat.add_assoc] using e
section
variable {P : Program} {G : Gh} {h : kT} {w : World} {x y v : kR} {X Y V : Value}
theorem sE (hj : x.oI = false) (hx : lM G h x X) : x.cells.length = X.cells.size ∧ ∀ (i : Nat) (u : kR), x.cells[i]? = some u → lM G h u (X.cells.getD i undef) := by
 by_cases ha : ∃ cs, x = .agg cs
 ·obtain ⟨cs, rfl⟩ := ha
  obtain ⟨C, rfl, hl, hr⟩ := hx.tQ
  exact ⟨hl, hr⟩
 ·have hc : x.cells = [x] := by cases x <;> simp_all [kR.cells]
  have hX : X.cells = #[X] := by
   cases hx with
   | p _ _ hp => cases hp <;> simp_all [kR.oI, Value.cells]
   | own _ _ _ _ _ hp => cases hp <;> simp [Value.cells]
   | ownv _ _ hp => cases hp <;> simp [Value.cells]
   | _ => simp_all [Value.cells]
  rw [hc, hX]
  refine ⟨rfl, fun i u hu => ?_⟩
  cases i with
  | zero => simp at hu; subst hu; simpa using hx
  | succ i => simp at hu
def Ew (G : Gh) (h : kT) (cs : List kR) (C : Array Value) : Prop := cs.length = C.size ∧ ∀ (i : Nat) (u : kR), cs[i]? = some u → lM G h u (C.getD i undef)
theorem Ew.put {cs vs : List kR} {C : Array Value} {U : List Value} {off : Nat} (hc : Ew G h cs C) (hle : off + vs.length ≤ cs.length) (hU : U.length = vs.length)
  (hr : ∀ (j : Nat) (u : kR), vs[j]? = some u → lM G h u (U.getD j undef)) : Ew G h (putCells cs off vs) (C.toList.take off ++ U ++ C.toList.drop (off + U.length)).toArray := by
 obtain ⟨h1, h2⟩ := hc
 have hoff : off + U.length ≤ C.size := by omega
 refine ⟨by rw [rJ cs vs off hle]; simp; omega, fun j u hu => ?_⟩
 rw [tW cs vs off j hle] at hu
 rw [Array.getD_eq_getD_getElem?, rI C U off j hoff]
 split at hu
 ·rename_i hj; rw [if_pos hj]; have := h2 j u hu; rwa [Array.getD_eq_getD_getElem?] at this
 ·rename_i hj
  rw [if_neg hj]
  split at hu
  ·rename_i hj2; rw [if_pos (by omega)]; have := hr _ u hu; rwa [List.getD_eq_getElem?_getD] at this
  ·rename_i hj2; rw [if_neg (by omega)]; have := h2 j u hu; rwa [Array.getD_eq_getD_getElem?] at this
theorem zN (place : Nat → Option (Nat × Nat)) (places : List (Nat × Nat)) (hp : ∀ i p, places[i]? = some p → place i = some p) :
  ∀ (parts : List (Nat × kR)) (PS : List (Nat × Value)) (zero : List kR) (Z : Array Value) (r : kR), Ew G h zero Z →
   (parts.map (·.1) = PS.map (·.1)) → (∀ (j : Nat) a b, parts[j]? = some a → PS[j]? = some b → lM G h a.2 b.2) → nO zero places parts = some r →
   ∃ C cs, Instr.fill place Z PS = some C ∧ r = .agg cs ∧ Ew G h cs C
 | [], PS, zero, Z, r, hz, hm, _, hb => by
  have : PS = [] := by simpa using hm.symm
  subst this
  simp only [nO, Option.some.injEq] at hb; subst hb
  exact ⟨Z, zero, rfl, rfl, hz⟩
 | (i, u) :: rest, [], zero, Z, r, _, hm, _, _ => by simp at hm
 | (i, u) :: rest, (i', U) :: PS, zero, Z, r, hz, hm, hr, hb => by
  simp only [List.map_cons, List.cons.injEq] at hm
  obtain ⟨rfl, hm⟩ := hm
  simp only [nO] at hb
  split at hb
  ·rename_i off n hpl
   split at hb
   case isFalse => cases hb
   rename_i hcond
   obtain ⟨hj, hn, hle⟩ := hcond
   have hU : lM G h u U := hr 0 (i, u) (i, U) rfl rfl
   obtain ⟨c1, c2⟩ := sE hj hU
   subst hn
   have hpl' := hp i _ hpl
   have hput := hz.put (U := U.cells.toList) hle (by simpa using c1.symm) (fun j a ha => by
    have := c2 j a ha
    rw [List.getD_eq_getElem?_getD, Array.getElem?_toList]
    rwa [Array.getD_eq_getD_getElem?] at this)
   obtain ⟨C, cs, e1, e2, e3⟩ := zN place places hp rest PS _ _ r hput hm (fun j a b ha hb => hr (j + 1) a b (by simpa using ha) (by simpa using hb)) hb
   refine ⟨C, cs, ?_, e2, e3⟩
   have hzl : zero.length = Z.size := hz.1
   have hfold := HH off U.cells.toList 0 Z (by rw [Array.length_toList]; omega)
   simp only [Nat.add_zero] at hfold
   have hsz : U.cells.size = u.cells.length := c1.symm
   simp only [Instr.fill, hpl', hsz, ne_eq, not_true_eq_false, false_or]
   rw [if_neg (by simp; omega)]
   rw [← Array.foldl_toList, Array.toList_zipIdx, hfold]
   exact e1
  ·cases hb
theorem GV {t : TypeId} {fs : Array Field} {z r : kR} {places : List (Nat × Nat)} {parts : Array (Nat × Operand)} {f : Operand → kR} {F : Operand → Value}
  (ht : P.underlying t = some (.struct fs)) (hz : qH P t = some z) (hp : fs.toList.mapM (fun f => (nY P f.type).map fun n => (f.offset, n)) = some places) (hf : ∀ o, lM G h (f o) (F o))
  (hzj : z.oI = false) (hb : nO z.cells places (parts.toList.map fun p => (p.1, f p.2)) = some r) :
  ∃ V, (Instr.build t (parts.map fun (i, x) => (i, F x))).run P w = .ok V w ∧ lM G h r V := by
 obtain ⟨Z, hz1, hz2⟩ := pU (P := P) (G := G) (h := h) (w := w) hz
 have hmap : ∀ (l : List Field) (ps : List (Nat × Nat)), l.mapM (fun f => (nY P f.type).map fun n => (f.offset, n)) = some ps →
   (l.mapM (fun f => (Prod.mk f.offset <$> Go.sizeOf f.type : Sem (Nat × Nat)))).run P w = .ok ps w := by
  intro l
  induction l with
  | nil => intro ps hps; simp at hps; subst hps; simp [Sem.run_pure]
  | cons f l ih =>
   intro ps hps
   simp only [List.mapM_cons, Option.bind_eq_bind, Option.bind_eq_some_iff] at hps
   obtain ⟨a, ha, bs, hbs, hps⟩ := hps
   cases hs : nY P f.type with
   | none => simp [hs] at ha
   | some n =>
    simp [hs] at ha; subst ha
    simp only [Option.pure_def, Option.some.injEq] at hps; subst hps
    simp only [List.mapM_cons, map_eq_pure_bind] at ih ⊢
    simp only [Sem.run_bind, nL hs, Sem.run_pure, Result.andThen_ok, ih bs hbs]
 have hmapA : (fs.mapM (fun f => (Prod.mk f.offset <$> Go.sizeOf f.type : Sem (Nat × Nat)))).run P w = .ok places.toArray w := by
  rw [Array.mapM_eq_mapM_toList]
  have := hmap fs.toList places hp
  simp only [map_eq_pure_bind] at this
  simp only [map_eq_pure_bind, Sem.run_bind, this, Result.andThen_ok, Sem.run_pure]
 obtain ⟨C, cs, e1, rfl, e3⟩ := zN (G := G) (h := h) (fun i => places.toArray[i]?) places (by simp) _ (parts.toList.map fun p => (p.1, F p.2)) z.cells Z.cells r (sE hzj hz2)
  (by simp) (fun j a b ha hb => by
   simp only [List.getElem?_map, Option.map_eq_some_iff] at ha hb
   obtain ⟨p, hp1, rfl⟩ := ha
   obtain ⟨q, hq1, rfl⟩ := hb
   rw [hp1] at hq1; cases hq1
   exact hf _) hb
 refine ⟨.agg C, ?_, .agg _ _ e3.1 e3.2⟩
 simp only [List.getElem?_toArray] at e1
 simp [Instr.build, hz1, run_underlying ht, hmapA, e1, Sem.run_pure]
theorem IF {t e : TypeId} {len n : Nat} {z r : kR} {parts : Array (Nat × Operand)} {f : Operand → kR} {F : Operand → Value}
  (ht : P.underlying t = some (.array len e)) (hz : qH P t = some z) (hn : nY P e = some n) (hf : ∀ o, lM G h (f o) (F o))
  (hzj : z.oI = false) (hb : nO z.cells ((List.range len).map fun i => (i * n, n)) (parts.toList.map fun p => (p.1, f p.2)) = some r) :
  ∃ V, (Instr.build t (parts.map fun (i, x) => (i, F x))).run P w = .ok V w ∧ lM G h r V := by
 obtain ⟨Z, hz1, hz2⟩ := pU (P := P) (G := G) (h := h) (w := w) hz
 obtain ⟨C, cs, e1, rfl, e3⟩ := zN (G := G) (h := h) (fun i => some (i * n, n)) ((List.range len).map fun i => (i * n, n)) (fun i p hp => by
   simp only [List.getElem?_map, Option.map_eq_some_iff] at hp
   obtain ⟨a, ha, rfl⟩ := hp
   have := (List.getElem?_eq_some_iff.1 ha).2
   simp at this; rw [this]) _ (parts.toList.map fun p => (p.1, F p.2)) z.cells Z.cells r (sE hzj hz2)
  (by simp) (fun j a b ha hb => by
   simp only [List.getElem?_map, Option.map_eq_some_iff] at ha hb
   obtain ⟨p, hp1, rfl⟩ := ha
   obtain ⟨q, hq1, rfl⟩ := hb
   rw [hp1] at hq1; cases hq1
   exact hf _) hb
 refine ⟨.agg C, ?_, .agg _ _ e3.1 e3.2⟩
 simp [Instr.build, hz1, run_underlying ht, nL hn, e1, Sem.run_pure]
theorem tL {c c' : kR} {V : Value} (hp : c.tK = some c') (hr : lM G h c V) : o7 G.H c' V ∧ c'.mC = true := by
  unfold kR.tK at hp
  split at hp <;> simp only [Option.some.injEq, reduceCtorEq] at hp <;> subst hp
  all_goals first
    | exact ⟨hr.q9, rfl⟩
    | (refine ⟨?_, rfl⟩; cases hr with | p _ _ h => exact h)
    | (refine ⟨?_, rfl⟩
       cases hr with
       | p _ _ h => exact h
       | func f first cap F C hlf hlc hf hc =>
         have h1 : F = #[] := Array.eq_empty_of_size_eq_zero hlf.symm
         have h2 : C = #[] := Array.eq_empty_of_size_eq_zero hlc.symm
         subst h1; subst h2; exact .func _)
theorem pR : ∀ {cs row : List kR}, mU cs = some row → row.length = cs.length ∧ ∀ (j : Nat) (c : kR), cs[j]? = some c → ∃ c', row[j]? = some c' ∧ c.tK = some c'
 | [], row, hp => by simp only [mU, Option.some.injEq] at hp; subst hp; simp
 | v :: r, row, hp => by
  simp only [mU] at hp
  split at hp <;> simp only [Option.some.injEq, reduceCtorEq] at hp
  rename_i a b ha hb
  subst hp
  obtain ⟨h1, h2⟩ := pR hb
  refine ⟨by simp [h1], fun j c hc => ?_⟩
  cases j with
  | zero => simp at hc; subst hc; exact ⟨a, rfl, ha⟩
  | succ j => obtain ⟨c', e1, e2⟩ := h2 j c (by simpa using hc); exact ⟨c', by simpa using e1, e2⟩
theorem p7 : ∀ (n sz : Nat) (cs : List kR), n * sz ≤ cs.length → (rowsOf n sz cs).length = n ∧ (∀ r ∈ rowsOf n sz cs, r.length = sz) ∧
  ∀ (i j : Nat) (row : List kR) (c : kR), (rowsOf n sz cs)[i]? = some row → row[j]? = some c → cs[i * sz + j]? = some c
 | 0, sz, cs, _ => by simp [rowsOf]
 | n + 1, sz, cs, hl => by
  have hl' : n * sz ≤ (cs.drop sz).length := by rw [List.length_drop]; rw [Nat.add_mul] at hl; omega
  obtain ⟨h1, h2, h3⟩ := p7 n sz (cs.drop sz) hl'
  simp only [rowsOf]
  have hsz : (cs.take sz).length = sz := by rw [List.length_take]; rw [Nat.add_mul] at hl; omega
  refine ⟨by simp [h1], ?_, ?_⟩
  ·intro r hr
   rcases List.mem_cons.1 hr with rfl | hr
   ·exact hsz
   ·exact h2 r hr
  ·intro i j row c hi hj
   cases i with
   | zero =>
    simp at hi; subst hi
    rw [List.getElem?_take] at hj
    split at hj
    ·simpa using hj
    ·cases hj
   | succ i =>
    have := h3 i j row c (by simpa using hi) hj
    rw [List.getElem?_drop] at this
    rw [show (i + 1) * sz + j = sz + (i * sz + j) by rw [Nat.add_mul]; omega]
    exact this
theorem y7 {H : Nat → Nat → Option Value} {n sz b off cap : Nat} {row : List kR} {F : Nat → Value} (hl : n * sz ≤ row.length) (hc : n ≤ cap)
  (hH : ∀ (j : Nat) (c : kR), row[j]? = some c → j < n * sz → H b (off + j) = some (F j) ∧ o7 H c (F j) ∧ c.mC = true) :
  o7 H (.slice (rowsOf n sz row) .no) (.slice (some ⟨b, off, none⟩) n cap) := by
 obtain ⟨h1, h2, h3⟩ := p7 n sz row hl
 have hb : ∀ (i j : Nat) (r : List kR) (c : kR), (rowsOf n sz row)[i]? = some r → r[j]? = some c → row[i * sz + j]? = some c ∧ i * sz + j < n * sz := by
  intro i j r c hi hj
  refine ⟨h3 i j r c hi hj, ?_⟩
  have hi' : i < n := by rw [← h1]; exact (List.getElem?_eq_some_iff.1 hi).1
  have hj' : j < sz := by rw [← h2 r (List.mem_of_getElem? hi)]; exact (List.getElem?_eq_some_iff.1 hj).1
  calc i * sz + j < i * sz + sz := by omega
   _ = (i + 1) * sz := by rw [Nat.add_mul]; omega
   _ ≤ n * sz := Nat.mul_le_mul_right _ hi'
 have := o7.slice (H := H) (rowsOf n sz row) b off cap sz F h2 (by rw [h1]; exact hc)
  (fun i j r c hi hj => by obtain ⟨a1, a2⟩ := hb i j r c hi hj; exact (hH _ c a1 a2).1)
  (fun i j r c hi hj => by obtain ⟨a1, a2⟩ := hb i j r c hi hj; exact (hH _ c a1 a2).2.2)
  (fun i j r c hi hj => by obtain ⟨a1, a2⟩ := hb i j r c hi hj; exact (hH _ c a1 a2).2.1)
 rwa [h1] at this
end
end Hk


namespace Hk
open Go Go.RowKit
section
variable {P : Program} {G : Gh} {h : kT} {w : World} {x y v : kR} {X Y V : Value}
def Gh.pX (G : Gh) (n b : Nat) (C : Array Value) (V : Value) : Gh :=
 {G with H := fun c k => if c = b then C[k]? else G.H c k, cur := fun i => if i = n then V else G.cur i }
theorem Inv.newRow (i : Inv G h w) {len sz : Nat} {cs row : List kR} {C : Array Value} (e : TypeId) (hc : Ew G h cs C) (hp : mU cs = some row) (hl : C.size = len * sz) (hmax : len ≤ maxLen) (hsz0 : 0 < sz) :
  ∃ G', Inv G' (h ++ [.front len sz]) (w.alloc (.cells C e)) ∧ Ext G h w G' (h ++ [.front len sz]) (w.alloc (.cells C e)) ∧
   lM G' (h ++ [.front len sz]) (.slice (rowsOf len sz row) (.own h.length)) (.slice (some ⟨w.heap.size, 0, none⟩) len len) := by
 obtain ⟨p1, p2⟩ := pR hp
 obtain ⟨c1, c2⟩ := hc
 have hHlt : ∀ {b k v}, G.H b k = some v → b ≠ w.heap.size := fun hv => by have := i.Av hv; omega
 refine ⟨G.pX h.length w.heap.size C (.slice (some ⟨w.heap.size, 0, none⟩) len len), ?_⟩
 have hmono : ∀ b k v, G.H b k = some v → (G.pX h.length w.heap.size C (.slice (some ⟨w.heap.size, 0, none⟩) len len)).H b k = some v := by
  intro b k v hv; simp only [Gh.pX, if_neg (hHlt hv), hv]
 have key := i.push (G' := G.pX h.length w.heap.size C (.slice (some ⟨w.heap.size, 0, none⟩) len len)) (ext := [.front len sz]) (w' := w.alloc (.cells C e))
  rfl rfl rfl (by simp) (fun k hk => nP w _ k hk) (fun id hid => rfl) (fun id hid => by simp only [Gh.pX]; rw [if_neg (by omega)]) hmono
  (fun b k hb => by simp only [Gh.pX]; rw [if_neg (by omega)])
  (fun b k v hb hv => by
   by_cases hbe : b = w.heap.size
   ·subst hbe
    simp only [Gh.pX, if_true] at hv
    rw [cell_of _ _ _ (heap_alloc_new w _), hv]
   ·simp only [Gh.pX, if_neg hbe] at hv
    have := i.Av hv; omega)
  (fun j bl hj m => by
   cases j with
   | zero =>
    simp at hj; subst hj
    refine .inr ⟨w.heap.size, len, C, e, by simp [Gh.pX], heap_alloc_new w _, Nat.le_refl _, hmax, hl, hsz0, fun k hk => ?_⟩
    simp only [Gh.pX, if_true]
    exact Array.getElem?_eq_none (by omega)
   | succ j => simp at hj)
  (fun j bl b hj ho => by
   cases j with
   | zero => simp at hj; subst hj; simp only [mT, Gh.pX, Nat.add_zero, if_true, Value.ownBlock, Option.some.injEq] at ho; omega
   | succ j => simp at hj)
  (fun j j' bl bl' b hj hj' _ _ => by
   have h1 : j < 1 := by simpa using (List.getElem?_eq_some_iff.1 hj).1
   have h2 : j' < 1 := by simpa using (List.getElem?_eq_some_iff.1 hj').1
   omega)
 refine ⟨key.1, key.2, ?_⟩
 have hlen : (rowsOf len sz row).length = len := (p7 len sz row (by omega)).1
 refine .own _ h.length len sz _ ?_ (by simp) (by omega) (p7 len sz row (by omega)).2.1 (fun _ => by simp [Gh.pX])
 refine y7 (F := fun j => C.getD j undef) (by omega) (Nat.le_refl _) fun j c hj hlt => ?_
 have hjl : j < C.size := by omega
 obtain ⟨c0, hc0⟩ : ∃ c0, cs[j]? = some c0 := ⟨cs[j]'(by omega), List.getElem?_eq_getElem (by omega)⟩
 obtain ⟨c', e1, e2⟩ := p2 j c0 hc0
 rw [hj] at e1; cases e1
 obtain ⟨q1, q2⟩ := tL e2 (c2 j c0 hc0)
 refine ⟨?_, q1.mono hmono, q2⟩
 simp [Gh.pX, Array.getD_eq_getD_getElem?, hjl]
theorem uA {zc : List kR} {Z : Array Value} (hz : Ew G h zc Z) : ∀ (len : Nat), Ew G h (List.replicate len zc).flatten ((Array.range (len * Z.size)).map fun j => Z[j % Z.size]!) := by
 intro len
 obtain ⟨h1, h2⟩ := hz
 refine ⟨by simp [h1], fun j u hu => ?_⟩
 have hlt : j < len * zc.length := by
  have := (List.getElem?_eq_some_iff.1 hu).1
  simpa using this
 have hpos : 0 < zc.length := by
  rcases Nat.eq_zero_or_pos zc.length with h0 | h0
  ·rw [h0] at hlt; omega
  ·exact h0
 have hmod : j % zc.length < zc.length := Nat.mod_lt _ hpos
 have hflat : ∀ (n j : Nat), j < n * zc.length → (List.replicate n zc).flatten[j]? = zc[j % zc.length]? := by
  intro n
  induction n with
  | zero => intro j hj; omega
  | succ n ih =>
   intro j hj
   rw [List.replicate_succ, List.flatten_cons]
   by_cases hjl : j < zc.length
   ·rw [List.getElem?_append_left hjl, Nat.mod_eq_of_lt hjl]
   ·rw [List.getElem?_append_right (by omega), ih (j - zc.length) (by rw [Nat.add_mul] at hj; omega)]
    rw [Nat.mod_eq_sub_mod (a := j) (by omega)]
 rw [hflat len j hlt] at hu
 have := h2 _ u hu
 rw [h1] at hlt hmod this
 have e : ((Array.range (len * Z.size)).map fun j => Z[j % Z.size]!).getD j undef = Z.getD (j % Z.size) undef := by
  simp [Array.getD_eq_getD_getElem?, hlt, hmod]
 rw [e]; exact this
theorem yJ {t e : TypeId} {len sz : Nat} {z : kR} {cs : List kR} {parts : Array (Nat × Operand)} {f : Operand → kR} {F : Operand → Value}
  (ht : P.underlying t = some (.slice e)) (hz : qH P e = some z) (hn : nY P e = some sz) (hsz : sz ≠ 0) (hle : len * sz ≤ 16777216) (hf : ∀ o, lM G h (f o) (F o)) (hzj : z.oI = false) (hzl : z.cells.length = sz)
  (hbd : nO (List.replicate len z.cells).flatten ((List.range len).map fun i => (i * sz, sz)) (parts.toList.map fun p => (p.1, f p.2)) = some (.agg cs)) :
  ∃ C, Ew G h cs C ∧ C.size = len * sz ∧ len ≤ maxLen ∧
   (Instr.buildSlice t len (parts.map fun (i, x) => (i, F x))).run P w = .ok (.slice (some ⟨w.heap.size, 0, none⟩) len len) (w.alloc (.cells C e)) := by
 obtain ⟨Z, hz1, hz2⟩ := pU (P := P) (G := G) (h := h) (w := w) hz
 have hzc := sE hzj hz2
 have hZs : Z.cells.size = sz := by rw [← hzl]; exact hzc.1.symm
 obtain ⟨C, cs', e1, e2, e3⟩ := zN (G := G) (h := h) (fun i => some (i * sz, sz)) ((List.range len).map fun i => (i * sz, sz)) (fun i p hp => by
   simp only [List.getElem?_map, Option.map_eq_some_iff] at hp
   obtain ⟨a, ha, rfl⟩ := hp
   have := (List.getElem?_eq_some_iff.1 ha).2
   simp at this; rw [this]) _ (parts.toList.map fun p => (p.1, F p.2)) _ _ _ (uA hzc len)
  (by simp) (fun j a b ha hb => by
   simp only [List.getElem?_map, Option.map_eq_some_iff] at ha hb
   obtain ⟨p, hp1, rfl⟩ := ha
   obtain ⟨q, hq1, rfl⟩ := hb
   rw [hp1] at hq1; cases hq1
   exact hf _) hbd
 cases e2
 have hlen : ∀ (places : List (Nat × Nat)) (parts : List (Nat × kR)) (zc : List kR) (r : kR), nO zc places parts = some r → ∃ cs, r = .agg cs ∧ cs.length = zc.length := by
  intro places parts
  induction parts with
  | nil => intro zc r hr; simp only [nO, Option.some.injEq] at hr; exact ⟨zc, hr.symm, rfl⟩
  | cons p parts ih =>
   intro zc r hr
   simp only [nO] at hr
   split at hr
   ·split at hr
    case isFalse => cases hr
    rename_i hc
    obtain ⟨cs, e1, e2⟩ := ih _ _ hr
    refine ⟨cs, e1, e2.trans ?_⟩
    exact rJ _ _ _ (by obtain ⟨_, h2, h3⟩ := hc; omega)
   ·cases hr
 obtain ⟨cs2, e4, e5⟩ := hlen _ _ _ _ hbd
 cases e4
 have hCs : C.size = len * sz := by
  rw [← e3.1, e5]; simp [hzl]
 refine ⟨C, e3, hCs, by
  have : len ≤ len * sz := Nat.le_mul_of_pos_right _ (by omega)
  simp only [maxLen]; omega, ?_⟩
 have hnle : ¬ (len * sz > 2 ^ 24) := by omega
 rw [hZs] at e1
 by_cases h0 : len * sz = 0
 ·have hl0 : len = 0 := by
   rcases Nat.mul_eq_zero.1 h0 with h1 | h1
   ·exact h1
   ·exact absurd h1 hsz
  subst hl0
  have hE : ∀ g : Nat → Value, Array.map g (Array.range 0) = #[] := fun g => Array.eq_empty_of_size_eq_zero (by simp)
  simp only [Nat.zero_mul, hE] at e1
  simp [Instr.buildSlice, run_underlying ht, nL hn, hE, e1, newRow, Sem.run_pure]
 ·simp [Instr.buildSlice, run_underlying ht, nL hn, hnle, h0, hz1, hZs, e1, newRow, Sem.run_pure]
theorem wT {t e : TypeId} {len sz : Nat} {z : kR} {rows : List (List kR)} {parts : Array (Nat × Operand)} {f : Operand → kR} {F : Operand → Value}
  (ht : P.underlying t = some (.slice e)) (hz : qH P e = some z) (hn : nY P e = some sz) (hsz : sz ≠ 0) (hle : len * sz ≤ 16777216) (hf : ∀ o, lM G h (f o) (F o)) (hzj : z.oI = false)
  (hb : oL len sz z.cells (parts.toList.map fun p => (p.1, f p.2)) = some rows) :
  ∃ cs row C, mU cs = some row ∧ rows = rowsOf len sz row ∧ Ew G h cs C ∧ C.size = len * sz ∧ len ≤ maxLen ∧
   (Instr.buildSlice t len (parts.map fun (i, x) => (i, F x))).run P w = .ok (.slice (some ⟨w.heap.size, 0, none⟩) len len) (w.alloc (.cells C e)) := by
 unfold oL at hb
 split at hb
 ·rename_i cs hbd
  split at hb
  ·rename_i row hrow
   split at hb
   case isFalse => cases hb
   rename_i hcond
   obtain ⟨hzl, hall⟩ := hcond
   simp only [Option.some.injEq] at hb
   subst hb
   obtain ⟨C, e3, hCs, hm, hrun⟩ := yJ (G := G) (h := h) (w := w) ht hz hn hsz hle hf hzj hzl hbd
   exact ⟨cs, row, C, hrow, rfl, e3, hCs, hm, hrun⟩
  ·cases hb
 ·cases hb
theorem CM {t e : TypeId} {len sz : Nat} {z r : kR} {h' : kT} {parts : Array (Nat × Operand)} {f : Operand → kR} {F : Operand → Value}
  (i : Inv G h w) (ht : P.underlying t = some (.slice e)) (hz : qH P e = some z) (hn : nY P e = some sz) (hsz : sz ≠ 0) (hle : len * sz ≤ 16777216) (hf : ∀ o, lM G h (f o) (F o)) (hzj : z.oI = false)
  (hb : lP len sz z.cells (parts.toList.map fun p => (p.1, f p.2)) h = some (r, h')) :
  ∃ V w' G', (Instr.buildSlice t len (parts.map fun (i, x) => (i, F x))).run P w = .ok V w' ∧ Inv G' h' w' ∧ Ext G h w G' h' w' ∧ lM G' h' r V := by
 unfold lP at hb
 split at hb
 ·rename_i rows hrows
  simp only [Option.some.injEq, Prod.mk.injEq] at hb
  obtain ⟨rfl, rfl⟩ := hb
  obtain ⟨cs, row, C, h1, rfl, h3, h4, h5, h6⟩ := wT (G := G) (h := h) (w := w) ht hz hn hsz hle hf hzj hrows
  obtain ⟨G', g1, g2, g3⟩ := i.newRow e h3 h1 h4 h5 (by omega)
  exact ⟨_, _, G', h6, g1, g2, g3⟩
 ·cases hb
end
end Hk


namespace Hk
open Go Go.RowKit
theorem Inv.drew {G : Gh} {h : kT} {w : World} (i : Inv G h w) : Inv G h w.drew := ⟨i.ok, fun id bl hb => by have := i.mX id bl hb; cases bl <;> exact this, i.inj⟩
theorem Ext.drew (G : Gh) (h : kT) (w : World) : Ext G h w G h w.drew :=
 ⟨rfl, rfl, rfl, Nat.le_refl _, fun _ _ _ => ⟨rfl, fun _ => rfl⟩, fun _ _ _ h => h, fun _ _ h _ => h, fun id bl hb => ⟨bl, hb, Kind.refl G id bl⟩⟩
section
variable {P : Program} {G : Gh} {h : kT} {w : World} {x y v : kR} {X Y V : Value}
structure Src (G : Gh) (h : kT) (w : World) (sz : Nat) (rows : List (List kR)) (X : Value) (a : Option Addr) (news : List Value) : Prop where
 form : ∃ cap, X = .slice a rows.length cap
 len : news.length = rows.length * sz
 rlen : ∀ r ∈ rows, r.length = sz
 at_ : ∀ (j : Nat) u, news[j]? = some u → ∃ ad, a = some ad ∧ w.cell? (ad.add j) = some u
 rel : ∀ (i j : Nat) (row : List kR) (c : kR), rows[i]? = some row → row[j]? = some c → ∃ u, news[i * sz + j]? = some u ∧ o7 G.H c u ∧ c.mC = true
theorem vX {sz : Nat} {rows : List (List kR)} (i : Inv G h w) (hb : tA sz h x = some rows) (hx : lM G h x X) : ∃ a news, Src G h w sz rows X a news := by
  unfold tA at hb
  split at hb
  · rename_i rows' tok
    split at hb
    case isFalse => cases hb
    rename_i hall
    simp only [Option.some.injEq] at hb; subst hb
    have hrl : ∀ r ∈ rows', r.length = sz := fun r hr => by simpa using List.all_eq_true.1 hall r hr
    have hp := hx.q9
    cases hp with
    | slice0 a cap => exact ⟨a, [], ⟨cap, rfl⟩, by simp, by simp, by simp, by simp⟩
    | slice rows b off cap sz' F hr hc hH hk hV =>
      have hszz : 0 < rows'.length → sz' = sz := fun h0 => by
        have hm : rows'[0]? = some rows'[0] := List.getElem?_eq_getElem h0
        rw [← hr _ (List.mem_of_getElem? hm), hrl _ (List.mem_of_getElem? hm)]
      refine ⟨some ⟨b, off, none⟩, (List.range (rows'.length * sz)).map F, ⟨cap, rfl⟩, by simp, hrl, ?_, ?_⟩
      · intro j u hu
        have hj : j < rows'.length * sz := by simpa using (List.getElem?_eq_some_iff.1 hu).1
        have hpos : 0 < sz := by rcases Nat.eq_zero_or_pos sz with h0 | h0; · rw [h0] at hj; omega
                                 · exact h0
        have hrow : j / sz < rows'.length := (Nat.div_lt_iff_lt_mul hpos).2 hj
        have h1 : rows'[j / sz]? = some rows'[j / sz] := List.getElem?_eq_getElem hrow
        have hl := hrl _ (List.mem_of_getElem? h1)
        have h2 : rows'[j / sz][j % sz]? = some (rows'[j / sz][j % sz]'(by rw [hl]; exact Nat.mod_lt _ hpos)) := List.getElem?_eq_getElem _
        have hs' := hszz (Nat.lt_of_le_of_lt (Nat.zero_le _) hrow)
        subst hs'
        have h3 := hH _ _ _ _ h1 h2
        rw [show j / sz' * sz' + j % sz' = j by rw [Nat.mul_comm]; exact Nat.div_add_mod j sz'] at h3
        refine ⟨_, rfl, ?_⟩
        rw [add_plain, i.ok _ _ _ h3]
        simp [hj] at hu
        rw [hu]
      · intro i' j row c h1 h2
        have hl := hrl _ (List.mem_of_getElem? h1)
        have hi' : i' < rows'.length := (List.getElem?_eq_some_iff.1 h1).1
        have hj' : j < sz := by rw [← hl]; exact (List.getElem?_eq_some_iff.1 h2).1
        have hs' := hszz (by omega)
        subst hs'
        refine ⟨F (i' * sz' + j), ?_, hV _ _ _ _ h1 h2, hk _ _ _ _ h1 h2⟩
        have : i' * sz' + j < rows'.length * sz' := by
          calc i' * sz' + j < i' * sz' + sz' := by omega
            _ = (i' + 1) * sz' := by rw [Nat.add_mul]; omega
            _ ≤ rows'.length * sz' := Nat.mul_le_mul_right _ hi'
        simp [this]
  · rename_i id off len sz'
    cases hgb : nJ h id with
    | none => simp [hgb] at hb
    | some cs =>
      have hid := Ef hgb
      simp only [hgb] at hb
      split at hb
      case isFalse => cases hb
      rename_i hcond
      obtain ⟨rfl, hle⟩ := hcond
      split at hb <;> simp only [Option.some.injEq, reduceCtorEq] at hb
      rename_i row hrow
      subst hb
      obtain ⟨a, cap, rfl, hlc, ha⟩ := hx.w_
      obtain ⟨C, e, h1, h2, h3, h4⟩ := i.mX id _ hid
      obtain ⟨p1, p2⟩ := pR hrow
      have hdl : ((cs.drop off).take (len * sz')).length = len * sz' := by rw [List.length_take, List.length_drop]; omega
      rw [hdl] at p1
      obtain ⟨q1, q2, q3⟩ := p7 len sz' row (by omega)
      refine ⟨a, (C.toList.drop off).take (len * sz'), ⟨cap, by rw [q1]⟩, by rw [q1, List.length_take, List.length_drop, Array.length_toList]; omega, q2, ?_, ?_⟩
      · intro j u hu
        rw [List.getElem?_take] at hu
        split at hu
        · rename_i hj
          have hpos : 0 < len := by rcases Nat.eq_zero_or_pos len with h0 | h0; · rw [h0] at hj; omega
                                    · exact h0
          obtain ⟨rfl, _⟩ := ha hpos
          refine ⟨_, rfl, ?_⟩
          rw [add_plain, cell_of w _ _ h1]
          rw [List.getElem?_drop, Array.getElem?_toList] at hu
          exact hu
        · cases hu
      · intro i' j r c hi hj
        have hrow' := q3 i' j r c hi hj
        have hlt : i' * sz' + j < len * sz' := by
          have := (List.getElem?_eq_some_iff.1 hrow').1; omega
        have hget : ∃ c0, ((cs.drop off).take (len * sz'))[i' * sz' + j]? = some c0 := ⟨_, List.getElem?_eq_getElem (by omega)⟩
        obtain ⟨c0, hc0⟩ := hget
        obtain ⟨c', e1, e2⟩ := p2 _ c0 hc0
        rw [hrow'] at e1; cases e1
        have hc1 : cs[off + (i' * sz' + j)]? = some c0 := by
          rw [List.getElem?_take, if_pos hlt, List.getElem?_drop] at hc0; exact hc0
        obtain ⟨_, hrel⟩ := h4 _ c0 hc1
        obtain ⟨z1, z2⟩ := tL e2 hrel
        have hCl : off + (i' * sz' + j) < C.size := by rw [h2]; exact (List.getElem?_eq_some_iff.1 hc1).1
        refine ⟨C.getD (off + (i' * sz' + j)) undef, ?_, z1, z2⟩
        rw [List.getElem?_take, if_pos hlt, List.getElem?_drop, Array.getElem?_toList, Array.getElem?_eq_getElem hCl]
        simp [Array.getD_eq_getD_getElem?, hCl]
  · rename_i id tot off len sz'
    cases hgb : nA h id tot with
    | none => simp [hgb] at hb
    | some x0 =>
      have hid := qO hgb
      simp only [hgb] at hb
      split at hb
      case isFalse => cases hb
      rename_i hcond
      obtain ⟨rfl, hle⟩ := hcond
      split at hb <;> simp only [Option.some.injEq, reduceCtorEq] at hb
      rename_i row hrow
      subst hb
      obtain ⟨b, cap, rfl, hnf, htot, hlc, hv⟩ := hx.pP
      obtain ⟨b', cap', C, e, g1, g2, g3, g4, g5, g6, g7, g8, g9⟩ := i.mX id _ hid
      obtain ⟨l0, cap0, k1, _⟩ := hv (by rw [g1]; rfl)
      rw [g1] at k1
      simp only [Value.slice.injEq, Option.some.injEq, Addr.mk.injEq] at k1
      obtain ⟨⟨rfl, _⟩, _, rfl⟩ := k1
      have hcl : x0.2.length ≤ C.size := by rw [g7, g5]; exact Nat.mul_le_mul_right _ g3
      obtain ⟨p1, p2⟩ := pR hrow
      have hdl : ((x0.2.drop off).take (len * sz')).length = len * sz' := by rw [List.length_take, List.length_drop]; omega
      rw [hdl] at p1
      obtain ⟨q1, q2, q3⟩ := p7 len sz' row (by omega)
      refine ⟨some ⟨b', off, none⟩, (C.toList.drop off).take (len * sz'), ⟨cap, by rw [q1]⟩, by rw [q1, List.length_take, List.length_drop, Array.length_toList]; omega, q2, ?_, ?_⟩
      · intro j u hu
        rw [List.getElem?_take] at hu
        split at hu
        · refine ⟨_, rfl, ?_⟩
          rw [add_plain, cell_of w _ _ g2]
          rw [List.getElem?_drop, Array.getElem?_toList] at hu
          exact hu
        · cases hu
      · intro i' j r c hi hj
        have hrow' := q3 i' j r c hi hj
        have hlt : i' * sz' + j < len * sz' := by
          have := (List.getElem?_eq_some_iff.1 hrow').1; omega
        have hget : ∃ c0, ((x0.2.drop off).take (len * sz'))[i' * sz' + j]? = some c0 := ⟨_, List.getElem?_eq_getElem (by omega)⟩
        obtain ⟨c0, hc0⟩ := hget
        obtain ⟨c', e1, e2⟩ := p2 _ c0 hc0
        rw [hrow'] at e1; cases e1
        have hc1 : x0.2[off + (i' * sz' + j)]? = some c0 := by
          rw [List.getElem?_take, if_pos hlt, List.getElem?_drop] at hc0; exact hc0
        obtain ⟨_, hrel⟩ := g9 _ c0 hc1
        obtain ⟨z1, z2⟩ := tL e2 hrel
        have hCl : off + (i' * sz' + j) < C.size := by have := (List.getElem?_eq_some_iff.1 hc1).1; omega
        refine ⟨C.getD (off + (i' * sz' + j)) undef, ?_, z1, z2⟩
        rw [List.getElem?_take, if_pos hlt, List.getElem?_drop, Array.getElem?_toList, Array.getElem?_eq_getElem hCl]
        simp [Array.getD_eq_getD_getElem?, hCl]
  · cases hb
theorem Src.one {sz : Nat} {rows : List (List kR)} {a : Option Addr} {news : List Value} (s : Src G h w sz rows X a news) : ∀ u ∈ news, u.oneCell' = true := by
  intro u hu
  obtain ⟨j, hj⟩ := List.getElem?_of_mem hu
  have hjl : j < rows.length * sz := by rw [← s.len]; exact (List.getElem?_eq_some_iff.1 hj).1
  have hpos : 0 < sz := by rcases Nat.eq_zero_or_pos sz with h0 | h0; · rw [h0] at hjl; omega
                           · exact h0
  have hrow : j / sz < rows.length := (Nat.div_lt_iff_lt_mul hpos).2 hjl
  have h1 : rows[j / sz]? = some rows[j / sz] := List.getElem?_eq_getElem hrow
  have hl := s.rlen _ (List.mem_of_getElem? h1)
  have h2 : rows[j / sz][j % sz]? = some (rows[j / sz][j % sz]'(by rw [hl]; exact Nat.mod_lt _ hpos)) := List.getElem?_eq_getElem _
  obtain ⟨u', e1, e2, e3⟩ := s.rel _ _ _ _ h1 h2
  rw [show j / sz * sz + j % sz = j by rw [Nat.mul_comm]; exact Nat.div_add_mod j sz] at e1
  rw [hj] at e1; cases e1
  exact (e2.zT e3).1
theorem Gu {H : Nat → Nat → Option Value} {rows : List (List kR)} {sz b cap : Nat} {all : List Value} (hr : ∀ r ∈ rows, r.length = sz) (hc : rows.length ≤ cap)
  (hH : ∀ (k : Nat) u, all[k]? = some u → H b k = some u)
  (hrel : ∀ (i j : Nat) (row : List kR) (c : kR), rows[i]? = some row → row[j]? = some c → ∃ u, all[i * sz + j]? = some u ∧ o7 H c u ∧ c.mC = true) :
  o7 H (.slice rows .no) (.slice (some ⟨b, 0, none⟩) rows.length cap) := by
 refine .slice rows b 0 cap sz (fun k => all.getD k undef) hr hc ?_ ?_ ?_
 ·intro i j row c h1 h2
  obtain ⟨u, e1, _⟩ := hrel i j row c h1 h2
  rw [Nat.zero_add, hH _ u e1, List.getD_eq_getElem?_getD, e1]; rfl
 ·intro i j row c h1 h2; obtain ⟨u, _, _, e3⟩ := hrel i j row c h1 h2; exact e3
 ·intro i j row c h1 h2
  obtain ⟨u, e1, e2, _⟩ := hrel i j row c h1 h2
  rw [List.getD_eq_getElem?_getD, e1]; exact e2
theorem Nc {H : Nat → Nat → Option Value} {A B : List (List kR)} {sz : Nat} {xs ys : List Value} (hxl : xs.length = A.length * sz) (hA : ∀ r ∈ A, r.length = sz)
  (h1 : ∀ (i j : Nat) (row : List kR) (c : kR), A[i]? = some row → row[j]? = some c → ∃ u, xs[i * sz + j]? = some u ∧ o7 H c u ∧ c.mC = true)
  (h2 : ∀ (i j : Nat) (row : List kR) (c : kR), B[i]? = some row → row[j]? = some c → ∃ u, ys[i * sz + j]? = some u ∧ o7 H c u ∧ c.mC = true) :
  ∀ (i j : Nat) (row : List kR) (c : kR), (A ++ B)[i]? = some row → row[j]? = some c → ∃ u, (xs ++ ys)[i * sz + j]? = some u ∧ o7 H c u ∧ c.mC = true := by
 intro i j row c hi hj
 by_cases hlt : i < A.length
 ·rw [List.getElem?_append_left hlt] at hi
  obtain ⟨u, e1, e2⟩ := h1 i j row c hi hj
  exact ⟨u, by rw [List.getElem?_append_left (List.getElem?_eq_some_iff.1 e1).1]; exact e1, e2⟩
 ·rw [List.getElem?_append_right (by omega)] at hi
  obtain ⟨u, e1, e2⟩ := h2 _ j row c hi hj
  refine ⟨u, ?_, e2⟩
  have : A.length * sz ≤ i * sz := Nat.mul_le_mul_right _ (by omega)
  rw [List.getElem?_append_right (by omega), hxl, ← e1]
  congr 1
  rw [Nat.sub_mul]; omega
theorem Inv.grow (i : Inv G h w) {id n n' sz sz' bb cap' : Nat} {all : List Value} {C' : Array Value} {e' : TypeId} {w' : World} (hid : h[id]? = some (.front n sz)) (hnn : n < n') (hsz : 0 < n → sz' = sz)
  (os : w'.os = w.os) (tape : w'.tape = w.tape) (output : w'.output = w.output) (size : w.heap.size ≤ w'.heap.size)
  (heap : ∀ k, k < w.heap.size → (k = bb → (G.cur id).ownBlock ≠ some k) → (k = bb → False) → w'.heap[k]? = w.heap[k]?)
  (hbb : (w.heap.size ≤ bb) ∨ (G.cur id).ownBlock = some bb)
  (hC : w'.heap[bb]? = some (.cells C' e' (0, 0))) (hcap : n' ≤ cap') (hmax : cap' ≤ maxLen) (hCs : C'.size = cap' * sz')
  (hsz0 : 0 < sz') (hall : all.length = n' * sz') (hC' : ∀ (k : Nat) u, all[k]? = some u → C'[k]? = some u)
  (hold : ∀ k v, G.H bb k = some v → all[k]? = some v) :
  ∃ G', Inv G' (h.set id (.front n' sz')) w' ∧ Ext G h w G' (h.set id (.front n' sz')) w' ∧ (∀ b k v, G.H b k = some v → G'.H b k = some v) ∧
   (∀ (k : Nat) u, all[k]? = some u → G'.H bb k = some u) ∧ G'.cur id = .slice (some ⟨bb, 0, none⟩) n' cap' := by
 let G' : Gh := { G with H := fun b k => if b = bb then all[k]? else G.H b k, cur := fun j => if j = id then .slice (some ⟨bb, 0, none⟩) n' cap' else G.cur j }
 have hmono : ∀ b k v, G.H b k = some v → G'.H b k = some v := by
  intro b k v hv
  show (if b = bb then all[k]? else G.H b k) = some v
  by_cases hb : b = bb
  ·subst hb; rw [if_pos rfl]; exact hold k v hv
  ·rw [if_neg hb]; exact hv
 have key := i.step (G' := G') id (.front n sz) (.front n' sz') hid os tape output size
  (fun k hk hne => heap k hk (fun _ => hne) (fun e => by
   subst e
   rcases hbb with h1 | h1
   ·omega
   ·exact hne h1))
  (fun j hj => rfl) (fun j hj => if_neg hj) hmono
  (fun b k hb hne => by
   have : b ≠ bb := by
    rintro rfl
    rcases hbb with h1 | h1
    ·omega
    ·exact hne h1
   show (if b = bb then all[k]? else G.H b k) = _
   rw [if_neg this])
  (fun b k v hb hv => by
   change (if b = bb then all[k]? else G.H b k) = some v at hv
   by_cases hbe : b = bb
   ·subst hbe
    rw [if_pos rfl] at hv
    rw [cell_of w' _ _ hC]; exact hC' k v hv
   ·rw [if_neg hbe] at hv
    have hlt := i.Av hv
    rw [World.cell?_of_block (w := w) (a := ⟨b, k, none⟩) (heap b hlt (fun e => absurd e hbe) hbe)]
    exact i.ok b k v hv)
  ⟨by omega, fun e => by omega, rfl, hsz⟩
  (fun _ => .inr ⟨bb, cap', C', e', if_pos rfl, hC, hcap, hmax, hCs, hsz0, fun k hk => by
   show (if bb = bb then all[k]? else G.H bb k) = none
   rw [if_pos rfl]; exact List.getElem?_eq_none (by omega)⟩)
  (fun b hb => by
   have hb : Value.ownBlock (if id = id then .slice (some ⟨bb, 0, none⟩) n' cap' else G.cur id) = some b := hb
   rw [if_pos rfl] at hb
   simp only [Value.ownBlock, Option.some.injEq] at hb
   subst hb
   exact hbb)
 exact ⟨G', key.1, key.2, hmono, fun k u hu => by show (if bb = bb then all[k]? else G.H bb k) = some u; rw [if_pos rfl]; exact hu, if_pos rfl⟩
end
end Hk


namespace Hk
open Go Go.RowKit
section
variable {P : Program} {G : Gh} {h : kT} {w : World} {x y v : kR} {X Y V : Value}
theorem HX (i : Inv G h w) {rows : List (List kR)} {id n sz : Nat} (hx : lM G h (.slice rows (.own id)) X) (hid : h[id]? = some (.front n sz)) (hlen : rows.length = n) :
  X = G.cur id ∧ (∀ r ∈ rows, r.length = sz) ∧ ((n = 0 ∧ G.cur id = .slice none 0 0) ∨ ∃ b cap C e, G.cur id = .slice (some ⟨b, 0, none⟩) n cap ∧ w.heap[b]? = some (.cells C e (0, 0)) ∧
   n ≤ cap ∧ cap ≤ maxLen ∧ C.size = cap * sz ∧ 0 < sz ∧ (∀ k, n * sz ≤ k → G.H b k = none) ∧
   ∀ (i' j : Nat) (row : List kR) (c : kR), rows[i']? = some row → row[j]? = some c → ∃ u, (C.toList.take (n * sz))[i' * sz + j]? = some u ∧ o7 G.H c u ∧ c.mC = true) := by
 cases hx with
 | p _ _ hp => cases hp
 | ownv _ _ hp hb =>
  obtain ⟨b, h1, _, h3⟩ := hb
  rw [hid] at h1; cases h1; exact absurd rfl (h3 _ _)
 | own _ _ n' sz' _ hp hf hn hr hc =>
  rw [hid] at hf
  simp only [Option.some.injEq, lW.front.injEq] at hf
  obtain ⟨rfl, rfl⟩ := hf
  have hX := hc hlen
  refine ⟨hX, hr, ?_⟩
  rcases i.mX id _ hid with h1 | ⟨b, cap, C, e, h1, h2, h3, h4, h5, h50, h6⟩
  ·exact .inl h1
  ·refine .inr ⟨b, cap, C, e, h1, h2, h3, h4, h5, h50, h6, fun i' j row c hi hj => ?_⟩
   rw [hX, h1] at hp
   generalize hV : Value.slice (some ⟨b, 0, none⟩) n cap = V0 at hp
   cases hp with
   | slice0 a cap => simp at hi
   | slice rows b' off cap' sz2 F hr2 hc2 hH hk hV2 =>
    simp only [Value.slice.injEq, Option.some.injEq, Addr.mk.injEq] at hV
    obtain ⟨⟨rfl, rfl, _⟩, hn', rfl⟩ := hV
    have hs : sz2 = sz := by rw [← hr2 row (List.mem_of_getElem? hi), hr row (List.mem_of_getElem? hi)]
    subst hs
    have hcell := i.ok _ _ _ (hH i' j row c hi hj)
    rw [cell_of w _ _ h2, Nat.zero_add] at hcell
    have hlt : i' * sz2 + j < n * sz2 := by
     have hi' : i' < rows.length := (List.getElem?_eq_some_iff.1 hi).1
     have hj' : j < sz2 := by rw [← hr2 row (List.mem_of_getElem? hi)]; exact (List.getElem?_eq_some_iff.1 hj).1
     calc i' * sz2 + j < i' * sz2 + sz2 := by omega
      _ = (i' + 1) * sz2 := by rw [Nat.add_mul]; omega
      _ ≤ n * sz2 := Nat.mul_le_mul_right _ (by omega)
    refine ⟨F (i' * sz2 + j), ?_, hV2 i' j row c hi hj, hk i' j row c hi hj⟩
    rw [List.getElem?_take, if_pos hlt, Array.getElem?_toList]
    exact hcell
theorem qN {t ty e : TypeId} {ti : TypeInfo} (ht : P.underlying t = some (.slice e)) (hi : P.info? e = some ti) (a b : Option Addr) (n cap c : Nat) (hn : n ≤ cap) :
  (Builtin.append_ #[t, t] ty #[.slice a n cap, .slice b 0 c]).run P w = .ok (.slice a n cap) w := by
 cases a <;> cases b <;> simp [Builtin.append_, run_underlying ht, Go.sizeOf, Go.typeInfo, hi, Builtin.lenOf, Builtin.firstCells, hn, loadCells, loadCellsFrom, storeCells, Sem.run_pure]
theorem Inv.Bv (i : Inv G h w) : ∃ G', Inv G' (h ++ [.front 0 0]) w ∧ Ext G h w G' (h ++ [.front 0 0]) w ∧ G'.cur h.length = .slice none 0 0 ∧ G'.H = G.H := by
 let G' : Gh := { G with cur := fun j => if j = h.length then .slice none 0 0 else G.cur j }
 have key := i.push (G' := G') (ext := [.front 0 0]) (w' := w) rfl rfl rfl (Nat.le_refl _) (fun _ _ => rfl) (fun _ _ => rfl) (fun id hid => if_neg (by omega)) (fun _ _ _ h => h) (fun _ _ _ => rfl)
  (fun b k v hb hv => by have := i.Av (b := b) (k := k) (v := v) hv; omega)
  (fun j bl hj m => by
   cases j with
   | zero => simp at hj; subst hj; exact .inl ⟨rfl, if_pos rfl⟩
   | succ j => simp at hj)
  (fun j bl b hj ho => by
   cases j with
   | zero =>
    simp at hj; subst hj
    have ho : Value.ownBlock (if h.length + 0 = h.length then .slice none 0 0 else G.cur (h.length + 0)) = some b := ho
    rw [if_pos (Nat.add_zero _)] at ho; cases ho
   | succ j => simp at hj)
  (fun j j' bl bl' b hj hj' _ _ => by
   have h1 : j < 1 := by simpa using (List.getElem?_eq_some_iff.1 hj).1
   have h2 : j' < 1 := by simpa using (List.getElem?_eq_some_iff.1 hj').1
   omega)
 exact ⟨G', key.1, key.2, if_pos rfl, rfl⟩
theorem Lf {G' : Gh} (hc : G'.cur h.length = .slice none 0 0) : lM G' (h ++ [.front 0 0]) (.slice [] (.own h.length)) (.slice none 0 0) :=
 .own [] h.length 0 0 _ (.slice0 none 0) (by simp) (Nat.le_refl _) (by simp) (fun _ => hc.symm)
theorem GU {t ty e : TypeId} {sz bytes : Nat} {z r : kR} {h' : kT} (i : Inv G h w) (ht : P.underlying t = some (.slice e)) (hn : nY P e = some sz) (hby : xZ P e = some bytes)
  (hz : qH P e = some z) (hzj : z.oI = false) (hzl : z.cells.length = sz) (hsz : sz ≠ 0) (hb : nQ sz bytes h x y = some (r, h')) (hx : lM G h x X) (hy : lM G h y Y) :
  ∃ V w' G', (Builtin.append_ #[t, t] ty #[X, Y]).run P w = .ok V w' ∧ Inv G' h' w' ∧ Ext G h w G' h' w' ∧ lM G' h' r V := by
 obtain ⟨ti, hti, hts, htb, Z, hzz, hZs⟩ : ∃ ti, P.info? e = some ti ∧ ti.size = sz ∧ ti.bytes = bytes ∧ ∃ Z, ti.zero = some Z ∧ Z.cells.size = sz := by
  unfold nY at hn; unfold xZ at hby; unfold qH at hz
  cases hi : P.info? e with
  | none => simp [hi] at hn
  | some ti =>
   simp [hi] at hn hby hz
   obtain ⟨Z, hZ1, hZ2⟩ := hz
   refine ⟨ti, rfl, hn, hby, Z, hZ1, ?_⟩
   subst hZ2
   rw [← hzl]; exact (sE hzj (sH G h Z)).1.symm
 unfold nQ at hb
 split at hb
 ·-- the holder of a token
  rename_i rows id new hnew
  obtain ⟨a, news, src⟩ := vX i hnew hy
  obtain ⟨capY, hYf⟩ := src.form
  split at hb
  ·rename_i n sz0 hid
   split at hb
   case isFalse => cases hb
   rename_i hcond
   obtain ⟨hlen, hszz, hbytes, hsmall⟩ := hcond
   obtain ⟨hX, hrl, hcur⟩ := HX i hx hid hlen
   split at hb
   ·rename_i hm
    simp only [Option.some.injEq, Prod.mk.injEq] at hb
    obtain ⟨rfl, rfl⟩ := hb
    refine ⟨X, w, G, ?_, i, Ext.refl G h w, hx⟩
    rw [hYf, hm]
    rcases hcur with ⟨_, hc⟩ | ⟨b, cap, C, e0, hc, _, hle, _⟩
    ·rw [hX, hc]; exact qN ht hti none a 0 0 capY (Nat.le_refl _)
    ·rw [hX, hc]; exact qN ht hti _ a n cap capY hle
   ·rename_i hm
    simp only [Option.some.injEq, Prod.mk.injEq] at hb
    obtain ⟨rfl, rfl⟩ := hb
    have hposn : 0 < news.length := by rw [src.len]; exact Nat.mul_pos (by omega) (by omega)
    obtain ⟨ad, had, _⟩ := src.at_ 0 _ (List.getElem?_eq_getElem hposn)
    subst had
    have hnews : ∀ j u, news[j]? = some u → w.cell? (ad.add j) = some u := fun j u hu => by
     obtain ⟨ad', e1, e2⟩ := src.at_ j u hu; cases e1; exact e2
    have hone := src.one
    have hnl : news.length = new.length * ti.size := by rw [hts]; exact src.len
    have fin : ∀ (bb cap' : Nat) (xs : List Value) (G' : Gh), xs.length = n * sz → cap' ≥ n + new.length → BJ G h G' (h.set id (.front (n + new.length) sz)) →
      (∀ (k : Nat) u, (xs ++ news)[k]? = some u → G'.H bb k = some u) → G'.cur id = .slice (some ⟨bb, 0, none⟩) (n + new.length) cap' →
      (∀ (i' j : Nat) (row : List kR) (c : kR), rows[i']? = some row → row[j]? = some c → ∃ u, xs[i' * sz + j]? = some u ∧ o7 G.H c u ∧ c.mC = true) →
      (∀ r ∈ rows, r.length = sz) →
      lM G' (h.set id (.front (n + new.length) sz)) (.slice (rows ++ new) (.own id)) (.slice (some ⟨bb, 0, none⟩) (n + new.length) cap') := by
     intro bb cap' xs G' hxl hc hm' hH hcur' hcells hrl'
     have hidl : id < h.length := (List.getElem?_eq_some_iff.1 hid).1
     have hrl2 : ∀ r ∈ rows ++ new, r.length = sz := fun r hr => (List.mem_append.1 hr).elim (hrl' r) (src.rlen r)
     have hlen2 : (rows ++ new).length = n + new.length := by rw [List.length_append, hlen]
     refine .own _ id (n + new.length) sz _ ?_ (by simp [hidl]) (by omega) hrl2 (fun _ => hcur'.symm)
     have := Gu (H := G'.H) (rows := rows ++ new) (sz := sz) (b := bb) (cap := cap') (all := xs ++ news) hrl2 (by omega) hH
      (Nc (by rw [hlen]; exact hxl) hrl' (fun i' j row c h1 h2 => by obtain ⟨u, e1, e2, e3⟩ := hcells i' j row c h1 h2; exact ⟨u, e1, e2.mono hm'.hmono, e3⟩)
       (fun i' j row c h1 h2 => by obtain ⟨u, e1, e2, e3⟩ := src.rel i' j row c h1 h2; exact ⟨u, e1, e2.mono hm'.hmono, e3⟩))
     rwa [hlen2] at this
    rw [hX, hYf]
    rcases hcur with ⟨rfl, hc⟩ | ⟨b, cap, C, e0, hc, hC, hle, hmx, hCs, hs0, hHn, hcells⟩
    ·-- nil so far
     rw [hc]
     have hrun := run_append_nil (P := P) w t ty e ti Z ht hti hzz ad new.length capY news hnl hnews (by omega) (by omega) (by rw [htb]; rw [Nat.zero_add] at hbytes; omega)
     have hcapg := grownCap_ge w new.length 0 e
     have hcapm := grownCap_le_maxLen w new.length 0 e (by simp only [maxLen]; omega)
     obtain ⟨G', g1, g2, g3, g4, g5⟩ := i.grow (id := id) (n := 0) (n' := 0 + new.length) (sz := sz0) (sz' := sz) (bb := w.heap.size) (cap' := grownCap w new.length 0 e) (all := news)
      (w' := w.drew.alloc (.cells (news.toArray ++ Builtin.zeroCells Z.cells (grownCap w new.length 0 e - new.length)) e)) hid (by omega) (by omega) rfl rfl rfl (by simp)
      (fun k hk _ _ => nP w.drew _ k hk) (.inl (Nat.le_refl _)) (heap_alloc_new w.drew _) (by omega) hcapm
      (by simp only [Array.size_append, List.size_toArray, size_zeroCells, hZs, src.len, ← Nat.add_mul]; congr 1; omega)
      (by omega) (by rw [src.len]; simp) (fun k u hu => by
       rw [Array.getElem?_append_left (by simpa using (List.getElem?_eq_some_iff.1 hu).1)]; simpa using hu)
      (fun k v hv => by have := i.Av hv; omega)
     refine ⟨_, _, G', hrun, g1, g2, ?_⟩
     have := fin w.heap.size (grownCap w new.length 0 e) [] G' (by simp) (by omega) g2.toMono (by simpa using g4) g5 (fun i' j row c h1 _ => by
      have : rows = [] := List.eq_nil_of_length_eq_zero hlen
      subst this; simp at h1) (fun r hr => by
      have : rows = [] := List.eq_nil_of_length_eq_zero hlen
      subst this; cases hr)
     simpa using this
    ·have hs : sz0 = sz := by omega
     rw [hc]
     by_cases hroom : n + new.length ≤ cap
     ·subst hs
      have hfit : n * ti.size + news.length ≤ C.size := by rw [hts, src.len, hCs, ← Nat.add_mul]; exact Nat.mul_le_mul_right _ hroom
      have hf := run_firstCells_some (P := P) w ti.size new.length ad new.length capY news hnl hnews
      have hst := run_storeCells_at P b (n * ti.size) e0 news 0 C w hC (by simpa using hfit) hone
      simp only [Nat.add_zero] at hst
      have hrun : (Builtin.append_ #[t, t] ty #[.slice (some ⟨b, 0, none⟩) n cap, .slice (some ad) new.length capY]).run P w =
        .ok (.slice (some ⟨b, 0, none⟩) (n + new.length) cap) (w.setRow b (C.toList.take (n * ti.size) ++ news ++ C.toList.drop (n * ti.size + news.length)).toArray) := by
       simp [Builtin.append_, run_underlying ht, Go.sizeOf, Go.typeInfo, hti, Builtin.lenOf, hroom, hf, Addr.add_lit, hst]
      rw [hts] at hrun hfit
      have hxl : (C.toList.take (n * sz0)).length = n * sz0 := by rw [List.length_take, Array.length_toList]; omega
      obtain ⟨G', g1, g2, g3, g4, g5⟩ := i.grow (id := id) (n := n) (n' := n + new.length) (sz := sz0) (sz' := sz0) (bb := b) (cap' := cap) (all := C.toList.take (n * sz0) ++ news)
       (C' := (C.toList.take (n * sz0) ++ news ++ C.toList.drop (n * sz0 + news.length)).toArray) (e' := e0)
       (w' := w.setRow b (C.toList.take (n * sz0) ++ news ++ C.toList.drop (n * sz0 + news.length)).toArray) hid (by omega) (fun _ => rfl) (by simp) (by simp) (by simp) (by simp)
       (fun k hk _ hne => setRow_other w b k _ hne) (.inr (by rw [hc]; rfl)) (setRow_heap w b C _ e0 _ hC) hroom hmx
       (by simp; omega) hs0
       (by rw [List.length_append, hxl, src.len, Nat.add_mul]) (fun k u hu => by
        rw [List.getElem?_toArray, List.getElem?_append_left (List.getElem?_eq_some_iff.1 hu).1]; exact hu)
       (fun k v hv => by
        have hk : k < n * sz0 := Classical.byContradiction fun hk => by rw [hHn k (by omega)] at hv; cases hv
        have := i.ok _ _ _ hv
        rw [cell_of w _ _ hC] at this
        rw [List.getElem?_append_left (by omega), List.getElem?_take, if_pos hk, Array.getElem?_toList]; exact this)
      exact ⟨_, _, G', hrun, g1, g2, fin b cap _ G' hxl hroom g2.toMono g4 g5 hcells hrl⟩
     ·subst hs
      have hxl : (C.toList.take (n * sz0)).length = n * sz0 := by
       rw [List.length_take, Array.length_toList, hCs]
       have : n * sz0 ≤ cap * sz0 := Nat.mul_le_mul_right _ hle
       omega
      have hxc : ∀ j u, (C.toList.take (n * sz0))[j]? = some u → w.cell? ((⟨b, 0, none⟩ : Addr).add j) = some u := by
       intro j u hu
       rw [List.getElem?_take] at hu
       split at hu
       ·rw [add_plain, cell_of w _ _ hC, Nat.zero_add]; rwa [Array.getElem?_toList] at hu
       ·cases hu
      have hrun := run_append_grow (P := P) w t ty e ti Z ht hti hzz ⟨b, 0, none⟩ n cap (C.toList.take (n * sz0)) (by rw [hts]; exact hxl) hxc ad new.length capY news hnl hnews (by omega) (by omega)
       (growslice_fits (by omega) (by rw [htb]; exact hbytes))
      have hcapg := grownCap_ge w (n + new.length) cap e
      have hcapm := grownCap_le_maxLen w (n + new.length) cap e (by simp only [maxLen]; omega)
      obtain ⟨G', g1, g2, g3, g4, g5⟩ := i.grow (id := id) (n := n) (n' := n + new.length) (sz := sz0) (sz' := sz0) (bb := w.heap.size) (cap' := grownCap w (n + new.length) cap e) (all := C.toList.take (n * sz0) ++ news)
       (w' := w.drew.alloc (.cells ((C.toList.take (n * sz0)).toArray ++ news.toArray ++ Builtin.zeroCells Z.cells (grownCap w (n + new.length) cap e - (n + new.length))) e)) hid (by omega)
       (fun _ => rfl) rfl rfl rfl (by simp)
       (fun k hk _ _ => nP w.drew _ k hk) (.inl (Nat.le_refl _)) (heap_alloc_new w.drew _) (by omega) hcapm
       (by simp only [Array.size_append, List.size_toArray, size_zeroCells, hZs, src.len, hxl, ← Nat.add_mul]; congr 1; omega)
       (by omega) (by rw [List.length_append, hxl, src.len, Nat.add_mul]) (fun k u hu => by
        have hk := (List.getElem?_eq_some_iff.1 hu).1
        rw [Array.getElem?_append_left (by simpa using hk), List.append_toArray, List.getElem?_toArray]; exact hu)
       (fun k v hv => by have := i.Av hv; omega)
      exact ⟨_, _, G', hrun, g1, g2, fin w.heap.size _ _ G' hxl (by omega) g2.toMono g4 g5 hcells hrl⟩
  ·cases hb
 ·-- a nil slice without a token
  rename_i new hnew
  obtain ⟨a, news, src⟩ := vX i hnew hy
  obtain ⟨capY, hYf⟩ := src.form
  have hX := hx.Jy
  split at hb
  ·rename_i hm
   simp only [Option.some.injEq, Prod.mk.injEq] at hb
   obtain ⟨rfl, rfl⟩ := hb
   refine ⟨X, w, G, ?_, i, Ext.refl G h w, hx⟩
   rw [hYf, hm, hX]
   exact qN ht hti none a 0 0 capY (Nat.le_refl _)
  ·rename_i hm
   split at hb
   case isFalse => cases hb
   rename_i hcond
   obtain ⟨hbytes, hsmall⟩ := hcond
   simp only [Option.some.injEq, Prod.mk.injEq] at hb
   obtain ⟨rfl, rfl⟩ := hb
   have hposn : 0 < news.length := by rw [src.len]; exact Nat.mul_pos (by omega) (by omega)
   obtain ⟨ad, had, _⟩ := src.at_ 0 _ (List.getElem?_eq_getElem hposn)
   subst had
   have hnews : ∀ j u, news[j]? = some u → w.cell? (ad.add j) = some u := fun j u hu => by
    obtain ⟨ad', e1, e2⟩ := src.at_ j u hu; cases e1; exact e2
   have hnl : news.length = new.length * ti.size := by rw [hts]; exact src.len
   obtain ⟨G1, i1, x1, hc1, hH1⟩ := i.Bv
   rw [hX, hYf]
   have hrun := run_append_nil (P := P) w t ty e ti Z ht hti hzz ad new.length capY news hnl hnews (by omega) (by omega) (by rw [htb]; omega)
   have hcapg := grownCap_ge w new.length 0 e
   have hcapm := grownCap_le_maxLen w new.length 0 e (by simp only [maxLen]; omega)
   obtain ⟨G', g1, g2, g3, g4, g5⟩ := i1.grow (id := h.length) (n := 0) (n' := new.length) (sz := 0) (sz' := sz) (bb := w.heap.size) (cap' := grownCap w new.length 0 e) (all := news)
    (w' := w.drew.alloc (.cells (news.toArray ++ Builtin.zeroCells Z.cells (grownCap w new.length 0 e - new.length)) e)) (by simp) (by omega) (by omega) rfl rfl rfl (by simp)
    (fun k hk _ _ => nP w.drew _ k hk) (.inl (Nat.le_refl _)) (heap_alloc_new w.drew _) (by omega) hcapm
    (by simp only [Array.size_append, List.size_toArray, size_zeroCells, hZs, src.len, ← Nat.add_mul]; congr 1; omega)
    (by omega) src.len (fun k u hu => by
     rw [Array.getElem?_append_left (by simpa using (List.getElem?_eq_some_iff.1 hu).1)]; simpa using hu)
    (fun k v hv => by have := i1.Av hv; omega)
   have hset : (h ++ [lW.front 0 0]).set h.length (.front new.length sz) = h ++ [.front new.length sz] := by simp
   rw [hset] at g1 g2
   refine ⟨_, _, G', hrun, g1, x1.trans g2, ?_⟩
   have m := (x1.trans g2).toMono
   refine .own _ h.length new.length sz _ ?_ (by simp) (Nat.le_refl _) src.rlen (fun _ => g5.symm)
   exact Gu src.rlen hcapg (fun k u hu => g4 k u hu) (fun i' j row c h1 h2 => by
    obtain ⟨u, e1, e2, e3⟩ := src.rel i' j row c h1 h2; exact ⟨u, e1, e2.mono m.hmono, e3⟩)
 ·cases hb
end
end Hk


namespace Hk
open Go Go.RowKit
section
variable {P : Program} {G : Gh} {h : kT} {w : World} {x y v : kR} {X Y V : Value}
theorem Ho : ∀ (vs : List kR) (k : Nat), (mV k vs).2.length = 0 → (mV k vs).1 = vs
 | [], k, _ => rfl
 | v :: r, k, h0 => by
  by_cases hv : v = .slice [] .nil
  ·subst hv; simp [mV] at h0
  ·have he : mV k (v :: r) = (v :: (mV k r).1, (mV k r).2) := by
    rw [mV]
    exact hv
   rw [he] at h0 ⊢
   simp only [] at h0 ⊢
   rw [Ho r k h0]
theorem Inv.newAt (i : Inv G h w) {id n : Nat} {v p : kR} {h' : kT} {Z : Value} (t : TypeId) (hb : tR id n h v = some (p, h')) (hr : lM G h v Z) :
  ∃ G', Inv G' h' (w.alloc (.cells Z.cells t)) ∧ Ext G h w G' h' (w.alloc (.cells Z.cells t)) ∧ lM G' h' p (.pointer (some ⟨w.heap.size, 0, none⟩)) ∧ Z.cells.size = n := by
 unfold tR at hb
 simp only [] at hb
 split at hb
 ·rename_i hid
  split at hb
  case isFalse => cases hb
  rename_i hcond
  obtain ⟨hlen, hall⟩ := hcond
  simp only [Option.some.injEq, Prod.mk.injEq] at hb
  obtain ⟨rfl, rfl⟩ := hb
  obtain ⟨c1, c2⟩ := Bf hr hall
  have hidl : id < h.length := (List.getElem?_eq_some_iff.1 hid).1
  let G' : Gh := { G with mX := fun j => if j = id then w.heap.size else G.mX j }
  have key := i.step (G' := G') (w' := w.alloc (.cells Z.cells t)) id .free (.cells v.cells) hid rfl rfl rfl (by simp) (fun k hk _ => nP w _ k hk) (fun j hj => if_neg hj) (fun _ _ => rfl)
   (fun _ _ _ hh => hh) (fun _ _ _ _ => rfl) (fun b k v hb hv => by
    rcases hb with hb | hb
    ·have := i.Av (b := b) (k := k) (v := v) hv; omega
    ·cases hb) trivial
   (fun m => ⟨Z.cells, t, by show (w.alloc _).heap[if id = id then w.heap.size else _]? = _; rw [if_pos rfl]; exact heap_alloc_new w _, by omega,
    fun k => by show G.H (if id = id then w.heap.size else _) k = none; rw [if_pos rfl]; exact i.Dq (Nat.le_refl _), fun j u hu => ⟨(c2 j u hu).1, (c2 j u hu).2.mono m⟩⟩)
   (fun b hb => by
    have hb : some (if id = id then w.heap.size else G.mX id) = some b := hb
    rw [if_pos rfl] at hb; cases hb; exact .inl (Nat.le_refl _))
  refine ⟨G', key.1, key.2, ?_, by omega⟩
  have hp := lM.ptr (G := G') (h := h.set id (.cells v.cells)) id 0 ⟨.cells v.cells, by simp [hidl], by simp⟩
  have he : G'.mX id = w.heap.size := if_pos rfl
  rwa [he] at hp
 ·cases hb
theorem Inv.RI (i : Inv G h w) {id len sz : Nat} {cs row : List kR} {C : Array Value} (e : TypeId) (hid : h[id]? = some .free) (hc : Ew G h cs C) (hp : mU cs = some row) (hl : C.size = len * sz) (hmax : len ≤ maxLen) (hsz0 : 0 < sz) :
  ∃ G', Inv G' (h.set id (.front len sz)) (w.alloc (.cells C e)) ∧ Ext G h w G' (h.set id (.front len sz)) (w.alloc (.cells C e)) ∧
   lM G' (h.set id (.front len sz)) (.slice (rowsOf len sz row) (.own id)) (.slice (some ⟨w.heap.size, 0, none⟩) len len) := by
 obtain ⟨p1, p2⟩ := pR hp
 obtain ⟨c1, c2⟩ := hc
 have hidl : id < h.length := (List.getElem?_eq_some_iff.1 hid).1
 have hHlt : ∀ {b k v}, G.H b k = some v → b ≠ w.heap.size := fun hv => by have := i.Av hv; omega
 have hmono : ∀ b k v, G.H b k = some v → (G.pX id w.heap.size C (.slice (some ⟨w.heap.size, 0, none⟩) len len)).H b k = some v := by
  intro b k v hv; simp only [Gh.pX, if_neg (hHlt hv), hv]
 have key := i.step (G' := G.pX id w.heap.size C (.slice (some ⟨w.heap.size, 0, none⟩) len len)) (w' := w.alloc (.cells C e)) id .free (.front len sz) hid
  rfl rfl rfl (by simp) (fun k hk _ => nP w _ k hk) (fun j hj => rfl) (fun j hj => by simp only [Gh.pX]; rw [if_neg hj]) hmono
  (fun b k hb _ => by simp only [Gh.pX]; rw [if_neg (by omega)])
  (fun b k v _ hv => by
   by_cases hbe : b = w.heap.size
   ·subst hbe
    simp only [Gh.pX, if_true] at hv
    rw [cell_of _ _ _ (heap_alloc_new w _), hv]
   ·simp only [Gh.pX, if_neg hbe] at hv
    have hlt := i.Av hv
    rw [World.cell?_of_block (w := w) (a := ⟨b, k, none⟩) (nP w _ b hlt)]
    exact i.ok b k v hv) trivial
  (fun m => .inr ⟨w.heap.size, len, C, e, by simp [Gh.pX], heap_alloc_new w _, Nat.le_refl _, hmax, hl, hsz0, fun k hk => by
    simp only [Gh.pX, if_true]
    exact Array.getElem?_eq_none (by omega)⟩)
  (fun b ho => by simp only [mT, Gh.pX, if_true, Value.ownBlock, Option.some.injEq] at ho; exact .inl (by omega))
 refine ⟨_, key.1, key.2, ?_⟩
 have hlen : (rowsOf len sz row).length = len := (p7 len sz row (by omega)).1
 refine .own _ id len sz _ ?_ (by simp [hidl]) (by omega) (p7 len sz row (by omega)).2.1 (fun _ => by simp [Gh.pX])
 refine y7 (F := fun j => C.getD j undef) (by omega) (Nat.le_refl _) fun j c hj hlt => ?_
 have hjl : j < C.size := by omega
 obtain ⟨c0, hc0⟩ : ∃ c0, cs[j]? = some c0 := ⟨cs[j]'(by omega), List.getElem?_eq_getElem (by omega)⟩
 obtain ⟨c', e1, e2⟩ := p2 j c0 hc0
 rw [hj] at e1; cases e1
 obtain ⟨q1, q2⟩ := tL e2 (c2 j c0 hc0)
 refine ⟨?_, q1.mono hmono, q2⟩
 simp [Gh.pX, Array.getD_eq_getD_getElem?, hjl]
theorem BK {t e : TypeId} {id len sz : Nat} {z r : kR} {h' : kT} {parts : Array (Nat × Operand)} {f : Operand → kR} {F : Operand → Value}
  (i : Inv G h w) (ht : P.underlying t = some (.slice e)) (hz : qH P e = some z) (hn : nY P e = some sz) (hsz : sz ≠ 0) (hle : len * sz ≤ 16777216) (hf : ∀ o, lM G h (f o) (F o)) (hzj : z.oI = false)
  (hb : pQ id len sz z.cells (parts.toList.map fun p => (p.1, f p.2)) h = some (r, h')) :
  ∃ V w' G', (Instr.buildSlice t len (parts.map fun (i, x) => (i, F x))).run P w = .ok V w' ∧ Inv G' h' w' ∧ Ext G h w G' h' w' ∧ lM G' h' r V := by
 unfold pQ at hb
 split at hb
 ·rename_i rows hid hrows
  simp only [Option.some.injEq, Prod.mk.injEq] at hb
  obtain ⟨rfl, rfl⟩ := hb
  obtain ⟨cs, row, C, h1, rfl, h3, h4, h5, h6⟩ := wT (G := G) (h := h) (w := w) ht hz hn hsz hle hf hzj hrows
  obtain ⟨G', g1, g2, g3⟩ := i.RI e hid h3 h1 h4 h5 (by omega)
  exact ⟨_, _, G', h6, g1, g2, g3⟩
 ·cases hb
theorem IE {t : TypeId} {id n : Nat} {p : kR} {h' : kT} (i : Inv G h w) (hb : tR id n h x = some (p, h')) (hx : lM G h x X) :
  ∃ V w' G', (Instr.box t X).run P w = .ok V w' ∧ Inv G' h' w' ∧ Ext G h w G' h' w' ∧ lM G' h' p V := by
 obtain ⟨G', h1, h2, h3, _⟩ := i.newAt t hb hx
 exact ⟨_, _, G', by simp [Instr.box, newVar, newRow, Sem.run_pure], h1, h2, h3⟩
theorem Fc {t : TypeId} {id n : Nat} {z p : kR} {h' : kT} (i : Inv G h w) (hz : qH P t = some z) (hb : tR id n h z = some (p, h')) :
  ∃ V w' G', (Instr.alloc t true (.tuple #[])).run P w = .ok V w' ∧ Inv G' h' w' ∧ Ext G h w G' h' w' ∧ lM G' h' p V := by
 obtain ⟨Z, hz1, hz2⟩ := pU (P := P) (G := G) (h := h) (w := w) hz
 obtain ⟨G', h1, h2, h3, _⟩ := i.newAt t hb hz2
 refine ⟨_, _, G', ?_, h1, h2, h3⟩
 simp [Instr.alloc, hz1, newVar, newRow, Sem.run_pure]
end
end Hk
