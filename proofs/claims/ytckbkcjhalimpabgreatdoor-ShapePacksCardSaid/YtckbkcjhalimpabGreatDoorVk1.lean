/-
  The texts Vk.Abs, Vk.Eval, Vk.Rel, Vk.Base, Vk.Pure, Vk.Pure2, Vk.Pure3, Vk.Mem, Vk.Mem2, Vk.Mem3, Vk.Mem4, Vk.Mem5, Vk.Mem6, one behind another. No conditions.
-/
import Derived.WalkKit
set_option linter.unusedVariables false
set_option linter.unusedSimpArgs false
set_option linter.all false
namespace Hk
section
open Go

/-- Who may append in place: nobody; a nil slice; the holder of this token. -/
inductive Tok where
  | no | nil | own (id : Nat)
  deriving DecidableEq, Inhabited

inductive AVal where
  | junk
  | bool (b : Bool)
  | int (k : IntKind) (n : Int)
  | str (s : List UInt8)
  | agg (cs : List AVal)
  | tuple (vs : List AVal)
  | slice (rows : List (List AVal)) (tok : Tok)
  | pptr (cs : List AVal)
  | ptr (id off : Nat)
  | nilptr
  | mslice (id off len sz : Nat)
  | vslice (id tot off len sz : Nat)
  | vptr (id tot off : Nat)
  | map (id : Nat)
  | nilmap
  | func (f : Nat) (first cap : List AVal)
  | nilfunc
  | iface (t : Nat) (v : AVal)
  | niliface
  deriving Inhabited

inductive ABlk where
  | free
  | gone
  | cells (cs : List AVal)
  | front (n sz : Nat) (t : Nat := 0)
  | vec (tot sz : Nat) (cs : List AVal)
  | map (es : List (AVal × AVal))
  | tcells (t : Nat) (cs : List AVal)
  deriving Inhabited

abbrev Heap := List ABlk

/-- How a call, or a piece of code, ends. -/
inductive Ex where
  | normal | ret | exit (id : Nat) | pan (v : AVal)
  deriving Inhabited

inductive Res where
  | ret (v : AVal) | pan (v : AVal)
  deriving Inhabited

abbrev CallO := Nat → List AVal → Heap → Option (Res × Heap)
abbrev R := Ex × List AVal × Heap

/-- Functions without a body. -/
inductive ExtK where
  | indexByte
  deriving DecidableEq

/-- Functions that are run by their contracts: a strings.Builder's copyCheck; a function of values. -/
inductive PrmK where
  | copyCheck
  | bldString (e : Nat)
  | fn (g : List AVal → Option AVal)
/-- An iterator over a function: what it hands to its loop's rounds, one after the other, read at the start. -/
structure IterK where
  seq : List AVal → Heap → Option (List (List AVal))

structure Ann where
  glob : Nat → Option (List AVal) := fun _ => none
  esc : Nat → Bool := fun _ => false
  grow : Nat → Bool := fun _ => false
  pure : Nat → Bool := fun _ => false
  ext : Nat → Option ExtK := fun _ => none
  /-- May the function end in a panic? -/
  pan : Nat → Bool := fun _ => false
  /-- Does the function put off a call that recovers? -/
  dfr : Nat → Bool := fun _ => false
  /-- Is the function one that lists a map's keys in rising order? -/
  srt : Nat → Bool := fun _ => false
  srf : Nat → Option Nat := fun _ => none
  /-- Do the function's appends make slices that are written into? -/
  vec : Nat → Bool := fun _ => false
  /-- Are such slices frozen where the function stores them? -/
  frz : Nat → Bool := fun _ => false
  /-- As 'vec', for slices of one type alone. -/
  vecT : Nat → Nat → Bool := fun _ _ => false
  /-- What the function makes by 'make' is a slice that is written into and may be frozen. -/
  vmk : Nat → Bool := fun _ => false
  /-- Are the blocks made on the ways to a place where they meet dropped there? -/
  jt : Nat → Bool := fun _ => false
  /-- Is the function run on the blocks alone that its arguments lead to? -/
  sub : Nat → Bool := fun _ => false
  /-- Does the answer lead to blocks of the function's own, which stay (and no others of its own)? -/
  out : Nat → Bool := fun _ => false
  /-- The function's answer is frozen when it returns. -/
  frr : Nat → Bool := fun _ => false
  /-- Does the function make strings of slices that are written into? -/
  rb : Nat → Bool := fun _ => false
  /-- Literals of these types in these functions are to be written into. -/
  vlitT : Nat → Nat → Bool := fun _ _ => false
  /-- Where a whole struct is loaded, what was written into stays for good (with 'rb'). -/
  frl : Nat → Bool := fun _ => false
  /-- Do the function's loops keep the blocks that are made in them? -/
  lkp : Nat → Bool := fun _ => false
  /-- Does the function deal with blocks whose type is known? -/
  tb : Nat → Bool := fun _ => false
  /-- Types whose new blocks tell their type. -/
  tbt : Nat → Bool := fun _ => false
  /-- Where in a type a strings.Builder lies. -/
  bld : Nat → Nat → Nat → Bool := fun _ _ _ => false
  gsz : Nat → Option Nat := fun _ => none
  prm : Nat → Option PrmK := fun _ => none
  /-- Does the function range over functions? -/
  rgf : Nat → Bool := fun _ => false
  /-- Which functions are such iterators. -/
  itr : Nat → Option IterK := fun _ => none
  /-- Are the function's slice literals written into? -/
  vlit : Nat → Bool := fun _ => false
  /-- Do the function's own blocks stay when it panics? -/
  kp : Nat → Bool := fun _ => false
  /-- Are what a call leaves of the blocks that lie open against it looked at behind it (rather than hidden from it)? -/
  ck : Nat → Bool := fun _ => false

/-! ### Values -/

def AVal.cells : AVal → List AVal
  | .agg cs => cs
  | v => [v]

def ofConst1 : Value → AVal
  | .bool b => .bool b
  | .int k n => .int k n
  | .string s => .str s.data.toList
  | .pointer none => .nilptr
  | .slice none 0 0 => .slice [] .nil
  | .map none => .nilmap
  | .nilFunc => .nilfunc
  | .nilIface => .niliface
  | _ => .junk

def ofConst : Value → AVal
  | .agg cs => .agg (cs.toList.map ofConst1)
  | .tuple cs => match cs.toList with | [] => .tuple [] | _ => .junk
  | v => ofConst1 v

def aval (A : Ann) (ρ : List AVal) : Operand → AVal
  | .tmp t => ρ.getD t .junk
  | .const v => ofConst v
  | .global g => match A.glob g with | some cs => .pptr cs | none => .junk
  | .func f => .func f [] []

/-- A cell that may lie in persistent memory: no token, no pointer to mutable memory. -/
def AVal.pure1 : AVal → Option AVal
  | .bool b => some (.bool b)
  | .int k n => some (.int k n)
  | .str s => some (.str s)
  | .slice rows _ => some (.slice rows .no)
  | .pptr cs => some (.pptr cs)
  | .nilptr => some .nilptr
  | .nilmap => some .nilmap
  | .func f [] [] => some (.func f [] [])
  | .nilfunc => some .nilfunc
  | .niliface => some .niliface
  | _ => none

def pureRow : List AVal → Option (List AVal)
  | [] => some []
  | v :: r => match v.pure1, pureRow r with
    | some x, some y => some (x :: y)
    | _, _ => none

def AVal.isJunk : AVal → Bool
  | .junk => true
  | _ => false

/-- May this value be a cell of a block? -/
def AVal.cellOk : AVal → Bool
  | .junk | .agg _ | .tuple _ => false
  | _ => true

/-! ### Sanitizing: what leaves a frame, or is stored below it, holds nothing of the heap from m on -/

def rowsOf : Nat → Nat → List AVal → List (List AVal)
  | 0, _, _ => []
  | n + 1, sz, cs => cs.take sz :: rowsOf n sz (cs.drop sz)

/-- The block that a value refers to. -/
def refOf : AVal → Option Nat
  | .ptr id _ => some id
  | .mslice id _ _ _ => some id
  | .vslice id _ _ _ _ => some id
  | .vptr id _ _ => some id
  | .map id => some id
  | .slice _ (.own id) => some id
  | _ => none
/-- Values that refer to no block from m on. -/
def AVal.shut0 (m : Nat) : AVal → Bool
  | .agg _ => false
  | .tuple _ => false
  | .iface _ _ => false
  | .func _ first cap => first.isEmpty && cap.isEmpty
  | v => match refOf v with | some r => decide (r < m) | none => true
def AVal.shut1 (m : Nat) : AVal → Bool
  | .agg cs => cs.all (AVal.shut0 m)
  | .iface _ v => v.shut0 m
  | .func _ first cap => first.all (AVal.shut0 m) && cap.all (AVal.shut0 m)
  | v => v.shut0 m

/-- A cell when the blocks from m on are dropped. -/
def AVal.san1 (m : Nat) (h : Heap) : AVal → AVal
  | .slice rows (.own id) => bif decide (id < m) then .slice rows (.own id) else .slice rows .no
  | .ptr id off => bif decide (id < m) then .ptr id off else
      match h[id]? with
      | some (.cells cs) => match pureRow (cs.drop off) with
        | some row => .pptr row
        | none => .junk
      | _ => .junk
  | .mslice id off len sz => bif decide (id < m) then .mslice id off len sz else
      match h[id]? with
      | some (.cells cs) => match pureRow ((cs.drop off).take (len * sz)) with
        | some row => bif decide (off + len * sz ≤ cs.length) then .slice (rowsOf len sz row) .no else .junk
        | none => .junk
      | _ => .junk
  | .vslice id tot off len sz => bif decide (id < m) then .vslice id tot off len sz else
      match h[id]? with
      | some (.vec tot' _ cs) => match pureRow ((cs.drop off).take (len * sz)) with
        | some row => bif decide (tot = tot' ∧ off + len * sz ≤ cs.length) then .slice (rowsOf len sz row) .no else .junk
        | none => .junk
      | _ => .junk
  | v => bif v.shut1 m then v else .junk

def AVal.san (m : Nat) (h : Heap) : AVal → AVal
  | .agg cs => .agg (cs.map (·.san1 m h))
  | .tuple vs => .tuple (vs.map fun v => match v with | .agg cs => .agg (cs.map (·.san1 m h)) | v => v.san1 m h)
  | .iface t (.agg cs) => .iface t (.agg (cs.map (·.san1 m h)))
  | .iface t v => .iface t (v.san1 m h)
  | v => v.san1 m h

/-- The blocks below m when the others are dropped. -/
def sanCells (m : Nat) (h : Heap) : List AVal → Option (List AVal)
  | [] => some []
  | v :: r => bif (v.san1 m h).cellOk then (match sanCells m h r with | some r' => some (v.san1 m h :: r') | none => none) else none
def sanBlk (m : Nat) (h : Heap) : ABlk → Option ABlk
  | .cells cs => (sanCells m h cs).map .cells
  | .vec tot sz cs => (sanCells m h cs).map (.vec tot sz)
  | .tcells t cs => (sanCells m h cs).map (.tcells t)
  | .map es => bif es.all (fun e => e.2.shut1 m) then some (.map es) else none
  | b => some b
def sanBlks (m : Nat) (h : Heap) : List ABlk → Option (List ABlk)
  | [] => some []
  | b :: r => match sanBlk m h b, sanBlks m h r with
    | some b', some r' => some (b' :: r')
    | _, _ => none
def trunc (m : Nat) (h : Heap) : Option Heap := sanBlks m h (h.take m)

/-- Strip the right to append. -/
def AVal.untok1 : AVal → AVal
  | .slice rows _ => .slice rows .no
  | v => v
def AVal.untok : AVal → AVal
  | .agg cs => .agg (cs.map AVal.untok1)
  | .tuple vs => .tuple (vs.map fun v => match v with | .agg cs => .agg (cs.map AVal.untok1) | v => v.untok1)
  | v => v.untok1

/-! ### Operations on values -/

def abin (op : BinOp) (x y : AVal) : Option AVal :=
  match x, y with
  | .int k a, .int k' b =>
    match op with
    | .shl => if b < 0 then none else some (.int k (k.wrap (a * 2 ^ (min b.toNat k.bits))))
    | .shr => if b < 0 then none else some (.int k (a.fdiv (2 ^ (min b.toNat k.bits))))
    | _ => if k ≠ k' then none else
      match op with
      | .add => some (.int k (k.wrap (a + b)))
      | .sub => some (.int k (k.wrap (a - b)))
      | .mul => some (.int k (k.wrap (a * b)))
      | .quo => if b = 0 then none else some (.int k (k.wrap (a.tdiv b)))
      | .rem => if b = 0 then none else some (.int k (a.tmod b))
      | .and => some (.int k (k.wrap (BitVec.ofInt k.bits a &&& BitVec.ofInt k.bits b).toNat))
      | .or => some (.int k (k.wrap (BitVec.ofInt k.bits a ||| BitVec.ofInt k.bits b).toNat))
      | .xor => some (.int k (k.wrap (BitVec.ofInt k.bits a ^^^ BitVec.ofInt k.bits b).toNat))
      | .andNot => some (.int k (k.wrap (BitVec.ofInt k.bits a &&& ~~~ BitVec.ofInt k.bits b).toNat))
      | .eql => some (.bool (a == b))
      | .neq => some (.bool (a != b))
      | .lss => some (.bool (a < b))
      | .leq => some (.bool (a ≤ b))
      | .gtr => some (.bool (a > b))
      | .geq => some (.bool (a ≥ b))
      | _ => none
  | .str a, .str b =>
    match op with
    | .add => if a.length + b.length ≤ 4611686018427387904 then some (.str (a ++ b)) else none
    | .eql => some (.bool (a == b))
    | .neq => some (.bool (!(a == b)))
    | .lss => some (.bool (Op.bytesLess a b))
    | .leq => some (.bool (Op.bytesLess a b || a == b))
    | .gtr => some (.bool (!(Op.bytesLess a b || a == b)))
    | .geq => some (.bool (!(Op.bytesLess a b)))
    | _ => none
  | _, _ => none

def abinB (op : BinOp) (x y : AVal) : Option AVal :=
  match op, x, y with
  | .eql, .bool a, .bool b => some (.bool (a == b))
  | .neq, .bool a, .bool b => some (.bool (!(a == b)))
  | _, _, _ => none

def aeq1 : AVal → AVal → Option Bool
  | .int k a, .int k' b => if k = k' then some (a == b) else none
  | .bool a, .bool b => some (a == b)
  | .str a, .str b => some (a == b)
  | _, _ => none

/-- The kinds of cells that '==' may see in a struct. -/
inductive Kd where
  | b | i | s
  deriving DecidableEq
def aeqK : Kd → AVal → AVal → Option Bool
  | .i, .int k a, .int k' b => if k = k' then some (a == b) else none
  | .b, .bool a, .bool b => some (a == b)
  | .s, .str a, .str b => some (a == b)
  | _, _, _ => none
def aeqAll : List Kd → List AVal → List AVal → Option Bool
  | [], [], [] => some true
  | k :: ks, x :: xs, y :: ys => match aeqK k x y, aeqAll ks xs ys with
    | some a, some b => some (a && b)
    | _, _ => none
  | _, _, _ => none

/-- '==' on structs of scalars. -/
def aeqAgg (ks : List Kd) : AVal → AVal → Option Bool
  | .agg xs, .agg ys => aeqAll ks xs ys
  | _, _ => none

def aun (op : UnOp) (x : AVal) : Option AVal :=
  match op, x with
  | .neg, .int k n => some (.int k (k.wrap (0 - n)))
  | .xor, .int k n => some (.int k (k.wrap (BitVec.ofInt k.bits (if k.signed then -1 else k.max) ^^^ BitVec.ofInt k.bits n).toNat))
  | .not, .bool b => some (.bool !b)
  | _, _ => none

def aconvInt (k : IntKind) : AVal → Option AVal
  | .int _ n => some (.int k (k.wrap n))
  | _ => none

def apick (c a b : AVal) : Option AVal :=
  match c with
  | .bool g => some (bif g then a else b)
  | _ => none

/-- A part of an aggregate: one cell, or 'n' cells again an aggregate. -/
def apart (isAgg : Bool) (n : Nat) (cs : List AVal) (off : Nat) : Option AVal :=
  bif isAgg then (if off + n ≤ cs.length then some (.agg ((cs.drop off).take n)) else none) else cs[off]?

def afield (isAgg : Bool) (n off : Nat) : AVal → Option AVal
  | .agg cs => apart isAgg n cs off
  | _ => none

def aextract (i : Nat) : AVal → Option AVal
  | .tuple vs => vs[i]?
  | _ => none

def aasInt : AVal → Option Int
  | .int _ n => some n
  | _ => none

def aindexStr (x i : AVal) : Option AVal :=
  match x, i with
  | .str s, .int _ n => if 0 ≤ n then (s[n.toNat]?).map fun b => .int .u8 b.toNat else none
  | _, _ => none

def aindexArr (isAgg : Bool) (len sz : Nat) (x i : AVal) : Option AVal :=
  match x, i with
  | .agg cs, .int _ n => if 0 ≤ n ∧ n < len then apart isAgg sz cs (n.toNat * sz) else none
  | _, _ => none

/-- The address of a slice's element. -/
def aindexSl (sz : Nat) (x i : AVal) : Option AVal :=
  match x, i with
  | .slice rows _, .int _ n =>
    if 0 ≤ n then match rows[n.toNat]? with
      | some row => if row.length = sz then some (.pptr row) else none
      | none => none
    else none
  | .mslice id off len sz', .int _ n => if 0 ≤ n ∧ n < len ∧ sz' = sz then some (.ptr id (off + n.toNat * sz)) else none
  | .vslice id tot off len sz', .int _ n => if 0 ≤ n ∧ n < len ∧ sz' = sz then some (.vptr id tot (off + n.toNat * sz)) else none
  | _, _ => none

/-- The address of an array's element. -/
def aindexAt (len sz : Nat) (x i : AVal) : Option AVal :=
  match x, i with
  | .ptr id off, .int _ n => if 0 ≤ n ∧ n < len then some (.ptr id (off + n.toNat * sz)) else none
  | .pptr cs, .int _ n => if 0 ≤ n ∧ n < len then some (.pptr (cs.drop (n.toNat * sz))) else none
  | _, _ => none

def afieldAt (off : Nat) : AVal → Option AVal
  | .ptr id o => some (.ptr id (o + off))
  | .vptr id tot o => some (.vptr id tot (o + off))
  | .pptr cs => some (.pptr (cs.drop off))
  | _ => none

def abound (x : Option AVal) (dflt : Nat) : Option Nat :=
  match x with
  | none => some dflt
  | some (.int _ n) => if 0 ≤ n then some n.toNat else none
  | _ => none

def asliceStr (x : AVal) (lo hi : Option AVal) : Option AVal :=
  match x with
  | .str s => match abound lo 0, abound hi s.length with
    | some l, some u => if l ≤ u ∧ u ≤ s.length then some (.str ((s.drop l).take (u - l))) else none
    | _, _ => none
  | _ => none

/-- All of an array that is written into, as a slice. -/
def asliceArr (len sz : Nat) (x : AVal) (lo hi : Option AVal) : Option AVal :=
  match x, lo, hi with
  | .ptr id off, none, none => if 0 < len then some (.mslice id off len sz) else none
  | _, _, _ => none

def asliceSl (sz : Nat) (x : AVal) (lo hi : Option AVal) : Option AVal :=
  match x with
  | .slice rows _ => match abound lo 0, abound hi rows.length with
    | some l, some u => if l ≤ u ∧ u ≤ rows.length ∧ (rows.all fun r => r.length == sz) then some (.slice ((rows.drop l).take (u - l)) .no) else none
    | _, _ => none
  | .mslice id off len sz' => match abound lo 0, abound hi len with
    | some l, some u => if l ≤ u ∧ u ≤ len ∧ sz' = sz then some (.mslice id (off + l * sz) (u - l) sz) else none
    | _, _ => none
  | .vslice id tot off len sz' => match abound lo 0, abound hi len with
    | some l, some u => if l ≤ u ∧ u ≤ len ∧ sz' = sz then (if l = 0 ∨ l < u then some (.vslice id tot (off + l * sz) (u - l) sz) else some (.slice [] .no)) else none
    | _, _ => none
  | _ => none

/-- An array's address, sliced. -/
def asliceAt (n sz : Nat) (x : AVal) (lo hi : Option AVal) : Option AVal :=
  match x, abound lo 0, abound hi n with
  | .ptr id off, some l, some u => if l ≤ u ∧ u ≤ n then some (.mslice id (off + l * sz) (u - l) sz) else none
  | .pptr cs, some l, some u => if l ≤ u ∧ u ≤ n ∧ n * sz ≤ cs.length then some (.slice (rowsOf (u - l) sz (cs.drop (l * sz))) .no) else none
  | _, _, _ => none

def alenStr : AVal → Option AVal
  | .str s => some (.int .i64 s.length)
  | _ => none
def alenSl : AVal → Option AVal
  | .slice rows _ => some (.int .i64 rows.length)
  | .mslice _ _ len _ => some (.int .i64 len)
  | .vslice _ _ _ len _ => some (.int .i64 len)
  | _ => none

def amax2 (x y : AVal) : Option AVal :=
  match x, y with
  | .int k a, .int _ b => some (.int k (if b > a then b else a))
  | _, _ => none
def amin2 (x y : AVal) : Option AVal :=
  match x, y with
  | .int k a, .int _ b => some (.int k (if b < a then b else a))
  | _, _ => none

/-- The same of more numbers. -/
def aminN : AVal → List AVal → Option AVal
  | x, [] => some x
  | x, y :: r => (amin2 x y).bind fun z => aminN z r
def amaxN : AVal → List AVal → Option AVal
  | x, [] => some x
  | x, y :: r => (amax2 x y).bind fun z => amaxN z r

/-! ### Memory -/

def getBlk (h : Heap) (id : Nat) : Option (List AVal) :=
  match h[id]? with
  | some (.cells cs) => some cs
  | _ => none

/-- The cells of a slice that is written into, as long as it is the longest of its kind. -/
def getVec (h : Heap) (id tot : Nat) : Option (Nat × List AVal) :=
  match h[id]? with
  | some (.vec tot' sz cs) => if tot' = tot then some (sz, cs) else none
  | _ => none

def aload (isAgg : Bool) (n : Nat) (h : Heap) : AVal → Option AVal
  | .pptr cs => apart isAgg n cs 0
  | .ptr id off => match getBlk h id with
    | some cs => apart isAgg n cs off
    | none => none
  | .vptr id tot off => match getVec h id tot with
    | some x => apart isAgg n x.2 off
    | none => none
  | _ => none

def putCells (cs : List AVal) (off : Nat) (vs : List AVal) : List AVal := cs.take off ++ vs ++ cs.drop (off + vs.length)

def AVal.isNil : AVal → Bool
  | .slice [] .nil => true
  | _ => false
/-- A nil slice that is stored over a right to append that nobody has used: it keeps that right. -/
def keep1 (h : Heap) (o v : AVal) : AVal := bif v.isNil then (match o with
  | .slice [] (.own id) => (match h[id]? with
    | some (.front 0 0) => .slice [] (.own id)
    | _ => v)
  | _ => v) else v
def keepTok (h : Heap) : List AVal → List AVal → List AVal
  | o :: os, v :: vs => keep1 h o v :: keepTok h os vs
  | _, vs => vs

/-- Store 'n' cells at an address. -/
def astore (n : Nat) (h : Heap) (p v : AVal) : Option Heap :=
  match p with
  | .ptr id off => match getBlk h id with
    | some cs =>
      let vs := v.cells
      if vs.length = n ∧ off + n ≤ cs.length ∧ vs.all AVal.cellOk then some (h.set id (.cells (putCells cs off (keepTok h (cs.drop off) vs)))) else none
    | none => none
  | .vptr id tot off => match getVec h id tot with
    | some x =>
      let vs := v.cells
      if vs.length = n ∧ off + n ≤ x.2.length ∧ vs.all AVal.cellOk then some (h.set id (.vec tot x.1 (putCells x.2 off vs))) else none
    | none => none
  | _ => none

/-- The cells of a new block: a nil slice there is given a token of its own (behind the block). -/
def tokCells : Nat → List AVal → List AVal × Heap
  | _, [] => ([], [])
  | id, .slice [] .nil :: r => let (a, b) := tokCells (id + 1) r; (.slice [] (.own id) :: a, .front 0 0 :: b)
  | id, v :: r => let (a, b) := tokCells id r; (v :: a, b)

/-- A new block: its address, and the heap. -/
def anew (n : Nat) (h : Heap) (v : AVal) : Option (AVal × Heap) :=
  let vs := v.cells
  if vs.length = n ∧ vs.all AVal.cellOk then
    let (cs, fs) := tokCells (h.length + 1) vs
    some (.ptr h.length 0, h ++ (.cells cs :: fs))
  else none

/-- A string's bytes as rows. -/
def srows (bs : List UInt8) : List (List AVal) := bs.map fun b => [AVal.int .u8 (b.toNat : Int)]
/-! ### Blocks whose type is known -/
def getT (h : Heap) (id : Nat) : Option (Nat × List AVal) :=
  match h[id]? with
  | some (.tcells t cs) => some (t, cs)
  | _ => none
def aloadT (isAgg : Bool) (n : Nat) (h : Heap) : AVal → Option AVal
  | .ptr id off => match getT h id with
    | some x => apart isAgg n x.2 off
    | none => aload isAgg n h (.ptr id off)
  | v => aload isAgg n h v
def astoreT (n : Nat) (h : Heap) (p v : AVal) : Option Heap :=
  match p with
  | .ptr id off => match getT h id with
    | some x =>
      let vs := v.cells
      if vs.length = n ∧ off + n ≤ x.2.length ∧ vs.all AVal.cellOk then some (h.set id (.tcells x.1 (putCells x.2 off (keepTok h (x.2.drop off) vs)))) else none
    | none => astore n h (.ptr id off) v
  | p => astore n h p v
def aloadB (tb g : Bool) (n : Nat) (h : Heap) (x : AVal) : Option AVal := bif tb then aloadT g n h x else aload g n h x
def astoreB (tb : Bool) (n : Nat) (h : Heap) (p v : AVal) : Option Heap := bif tb then astoreT n h p v else astore n h p v
def anewT (t n : Nat) (h : Heap) (v : AVal) : Option (AVal × Heap) :=
  let vs := v.cells
  if vs.length = n ∧ vs.all AVal.cellOk then
    let (cs, fs) := tokCells (h.length + 1) vs
    some (.ptr h.length 0, h ++ (.tcells t cs :: fs))
  else none

def anewB (tb : Bool) (t n : Nat) (h : Heap) (v : AVal) : Option (AVal × Heap) := bif tb then anewT t n h v else anew n h v

/-- A slice as rows. -/
def arowsS (sz : Nat) (h : Heap) : AVal → Option (List (List AVal))
  | .slice rows _ => if rows.all fun r => r.length == sz then some rows else none
  | .mslice id off len sz' => match getBlk h id with
    | some cs => if sz' = sz ∧ off + len * sz ≤ cs.length then (match pureRow ((cs.drop off).take (len * sz)) with | some row => some (rowsOf len sz row) | none => none) else none
    | none => none
  | .vslice id tot off len sz' => match getVec h id tot with
    | some x => if sz' = sz ∧ off + len * sz ≤ x.2.length then (match pureRow ((x.2.drop off).take (len * sz)) with | some row => some (rowsOf len sz row) | none => none) else none
    | none => none
  | _ => none

/-- A slice that is written into as rows, whatever its cells are. -/
def arowsU (sz : Nat) (h : Heap) : AVal → Option (List (List AVal))
  | .vslice id tot off len sz' => match getVec h id tot with
    | some x => if sz' = sz ∧ off + len * sz ≤ x.2.length then some (rowsOf len sz ((x.2.drop off).take (len * sz))) else none
    | none => none
  | _ => none
def arowsV (sz : Nat) (h : Heap) (x : AVal) : Option (List (List AVal)) := match arowsS sz h x with
  | some r => some r
  | none => arowsU sz h x

/-- append: the slice has its token, and is the longest that has it. -/
def aappend (sz bytes : Nat) (h : Heap) (s x : AVal) : Option (AVal × Heap) :=
  match s, arowsS sz h x with
  | .slice rows (.own id), some new =>
    match h[id]? with
    | some (.front n sz') =>
      if rows.length = n ∧ (sz' = sz ∨ n = 0 ∧ sz' = 0) ∧ (n + new.length) * bytes ≤ 140737488355328 ∧ n + new.length ≤ 140737488355328
      then (if new.length = 0 then some (.slice rows (.own id), h) else some (.slice (rows ++ new) (.own id), h.set id (.front (n + new.length) sz))) else none
    | _ => none
  | .slice [] .nil, some new =>
    if new.length = 0 then some (.slice [] .nil, h) else
    if new.length * bytes ≤ 140737488355328 ∧ new.length ≤ 140737488355328 then some (.slice new (.own h.length), h ++ [.front new.length sz]) else none
  | _, _ => none

/-- append that keeps in mind of what type the block is. -/
def aappendT (t1 sz bytes : Nat) (h : Heap) (s x : AVal) : Option (AVal × Heap) :=
  match s, arowsS sz h x with
  | .slice rows (.own id), some new =>
    match h[id]? with
    | some (.front n sz' t') =>
      if rows.length = n ∧ (sz' = sz ∨ n = 0 ∧ sz' = 0) ∧ (n + new.length) * bytes ≤ 140737488355328 ∧ n + new.length ≤ 140737488355328
      then (if new.length = 0 then some (.slice rows (.own id), h) else some (.slice (rows ++ new) (.own id), h.set id (.front (n + new.length) sz (bif sz' == 0 || t' == t1 then t1 else 0)))) else none
    | _ => none
  | .slice [] .nil, some new =>
    if new.length = 0 then some (.slice [] .nil, h) else
    if new.length * bytes ≤ 140737488355328 ∧ new.length ≤ 140737488355328 then some (.slice new (.own h.length), h ++ [.front new.length sz t1]) else none
  | _, _ => none

/-- A string's bytes appended. -/
def aappendStr (t1 sz by_ zl : Nat) (h : Heap) (s x : AVal) : Option (AVal × Heap) :=
  match x with
  | .str bs => bif sz == 1 && zl == 1 then aappendT t1 1 by_ h s (.slice (srows bs) .no) else none
  | _ => none

/-- append that makes a slice which is written into. -/
def aappendV (sz bytes : Nat) (h : Heap) (s x : AVal) : Option (AVal × Heap) :=
  match s, arowsV sz h x with
  | .slice [] (.own id), some new =>
    match h[id]? with
    | some (.front 0 0) =>
      if new.length * bytes ≤ 140737488355328 ∧ new.length ≤ 140737488355328
      then (if new.length = 0 then some (.slice [] (.own id), h) else some (.vslice id new.length 0 new.length sz, h.set id (.vec new.length sz new.flatten))) else none
    | _ => none
  | .slice [] .nil, some new =>
    if new.length = 0 then some (.slice [] .nil, h) else
    if new.length * bytes ≤ 140737488355328 ∧ new.length ≤ 140737488355328 then some (.vslice h.length new.length 0 new.length sz, h ++ [.vec new.length sz new.flatten]) else none
  | .vslice id tot 0 n sz', some new =>
    match getVec h id tot with
    | some x =>
      if sz' = sz ∧ x.1 = sz ∧ (n + new.length) * bytes ≤ 140737488355328 ∧ n + new.length ≤ 140737488355328
      then (if new.length = 0 then some (.vslice id tot 0 n sz, h)
        else if n + new.length ≤ tot then some (.vslice id tot 0 (n + new.length) sz, h.set id (.vec tot sz (putCells x.2 (n * sz) new.flatten)))
        else some (.vslice id (n + new.length) 0 (n + new.length) sz, h.set id (.vec (n + new.length) sz (x.2.take (n * sz) ++ new.flatten)))) else none
    | none => none
  | _, _ => none

/-- What is written into no more: a slice of cells that stay. -/
def afreeze (h : Heap) (v : AVal) : Option (AVal × Heap) :=
  match v with
  | .vslice id tot off len sz => match getVec h id tot with
    | some x => match pureRow ((x.2.drop off).take (len * sz)) with
      | some row => if off + len * sz ≤ x.2.length then some (.slice (rowsOf len sz row) .no, h.set id .gone) else none
      | none => none
    | none => none
  | v => some (v, h)

def afreezeC : Heap → List AVal → Option (List AVal × Heap)
  | h, [] => some ([], h)
  | h, c :: r => (afreeze h c).bind fun y => (afreezeC y.2 r).bind fun z => some (y.1 :: z.1, z.2)
/-- The same for a struct's cells. -/
def afreezeA (h : Heap) (v : AVal) : Option (AVal × Heap) :=
  match v with
  | .agg cs => (afreezeC h cs).bind fun z => some (.agg z.1, z.2)
  | v => some (v, h)

/-- clear: the cells of a slice. -/
def aclear (sz : Nat) (zero : List AVal) (h : Heap) (x : AVal) : Option Heap :=
  match x with
  | .slice [] _ => some h
  | .vslice id tot off len sz' => if len = 0 then some h else match getVec h id tot with
    | some x => if sz' = sz ∧ zero.length = sz ∧ zero.all AVal.cellOk ∧ off + len * sz ≤ x.2.length then some (h.set id (.vec tot x.1 (putCells x.2 off (List.replicate len zero).flatten))) else none
    | none => none
  | _ => none

def abuild (zero : List AVal) (places : List (Nat × Nat)) (parts : List (Nat × AVal)) : Option AVal :=
  match parts with
  | [] => some (.agg zero)
  | (i, v) :: rest => match places[i]? with
    | some (off, n) => if v.isJunk = false ∧ v.cells.length = n ∧ off + n ≤ zero.length then abuild (putCells zero off v.cells) places rest else none
    | none => none

/-- A slice of literals: its cells are filled as an array's are. -/
def abuildRow (len sz : Nat) (zero : List AVal) (parts : List (Nat × AVal)) : Option (List (List AVal)) :=
  match abuild (List.replicate len zero).flatten ((List.range len).map fun i => (i * sz, sz)) parts with
  | some (.agg cs) => match pureRow cs with
    | some row => if zero.length = sz ∧ cs.all AVal.cellOk then some (rowsOf len sz row) else none
    | none => none
  | _ => none
def abuildSlice (len sz : Nat) (zero : List AVal) (parts : List (Nat × AVal)) (h : Heap) : Option (AVal × Heap) :=
  match abuildRow len sz zero parts with
  | some rows => some (.slice rows (.own h.length), h ++ [.front len sz])
  | none => none
/-- Literals that lead to blocks. -/
def abuildSliceU (len sz : Nat) (zero : List AVal) (parts : List (Nat × AVal)) (h : Heap) : Option (AVal × Heap) :=
  match abuild (List.replicate len zero).flatten ((List.range len).map fun i => (i * sz, sz)) parts with
  | some (.agg cs) => if zero.length = sz ∧ cs.all AVal.cellOk then some (.vslice h.length len 0 len sz, h ++ [.vec len sz cs]) else none
  | _ => none
/-- The same, to be written into. -/
def abuildSliceV (len sz : Nat) (zero : List AVal) (parts : List (Nat × AVal)) (h : Heap) : Option (AVal × Heap) :=
  match abuildRow len sz zero parts with
  | some rows => some (.vslice h.length len 0 len sz, h ++ [.vec len sz rows.flatten])
  | none => abuildSliceU len sz zero parts h
/-- The same at a reserved place. -/
def abuildSliceAt (id len sz : Nat) (zero : List AVal) (parts : List (Nat × AVal)) (h : Heap) : Option (AVal × Heap) :=
  match h[id]?, abuildRow len sz zero parts with
  | some .free, some rows => some (.slice rows (.own id), h.set id (.front len sz))
  | _, _ => none

def amakeSlice (sz bytes : Nat) (zero : List AVal) (len : AVal) (h : Heap) : Option (AVal × Heap) :=
  match len with
  | .int _ n => if 0 ≤ n ∧ n.toNat * bytes ≤ 140737488355328 ∧ n ≤ 140737488355328
      then some (.mslice h.length 0 n.toNat sz, h ++ [.cells (List.replicate n.toNat zero).flatten]) else none
  | _ => none

def amakeSliceV (sz bytes : Nat) (zero : List AVal) (len : AVal) (h : Heap) : Option (AVal × Heap) :=
  match len with
  | .int _ n => if 0 ≤ n ∧ n.toNat * bytes ≤ 140737488355328 ∧ n ≤ 140737488355328
      then some (.vslice h.length n.toNat 0 n.toNat sz, h ++ [.vec n.toNat sz (List.replicate n.toNat zero).flatten]) else none
  | _ => none

/-- copy: a string's bytes into a slice that is written into. -/
def acopyS (h : Heap) (d s : AVal) : Option (AVal × Heap) :=
  match d, s with
  | .vslice id tot off len 1, .str bs => match getVec h id tot with
    | some x => if off + len ≤ x.2.length ∧ x.1 = 1 then some (.int .i64 (min bs.length len : Nat), h.set id (.vec tot 1 (putCells x.2 off ((bs.take len).map fun b => .int .u8 b.toNat)))) else none
    | none => none
  | _, _ => none

def bytesOf : List (List AVal) → Option (List UInt8)
  | [] => some []
  | [.int .u8 n] :: r => match bytesOf r with
    | some bs => some (UInt8.ofNat n.toNat :: bs)
    | none => none
  | _ => none
def abytesStr (x : AVal) : Option AVal :=
  match x with
  | .slice rows _ => (bytesOf rows).map .str
  | _ => none
/-- The same of a slice that is written into, too. -/
def abytesH (h : Heap) (x : AVal) : Option AVal :=
  match x with
  | .vslice id tot off len sz => match arowsS 1 h (.vslice id tot off len sz) with
    | some rows => (bytesOf rows).map .str
    | none => none
  | .mslice id off len sz => match arowsS 1 h (.mslice id off len sz) with
    | some rows => (bytesOf rows).map .str
    | none => none
  | x => abytesStr x

/-- Where a byte is first. -/
def aindexByte : List UInt8 → UInt8 → Int
  | [], _ => -1
  | b :: l, c => if b == c then 0 else if aindexByte l c == -1 then -1 else aindexByte l c + 1

def extV : ExtK → List AVal → Option AVal
  | .indexByte, [.str s, .int .u8 c] => some (.int .i64 (aindexByte s (UInt8.ofNat c.toNat)))
  | _, _ => none

/-! ### Maps: keys are scalars -/

def akeyFor : TypeDesc → AVal → Bool
  | .int k, .int k' _ => k == k'
  | .string, .str _ => true
  | .bool, .bool _ => true
  | _, _ => false
def akeyOk : AVal → Bool
  | .int _ _ | .str _ | .bool _ => true
  | _ => false

def afind (k : AVal) : List (AVal × AVal) → Option (Option AVal)
  | [] => some none
  | (k', v) :: r => match aeq1 k k' with
    | some true => some (some v)
    | some false => afind k r
    | none => none

def aputMap (k v : AVal) : List (AVal × AVal) → List (AVal × AVal)
  | [] => [(k, v)]
  | (k', v') :: r => match aeq1 k k' with
    | some true => (k', v) :: r
    | _ => (k', v') :: aputMap k v r

def adelMap (k : AVal) : List (AVal × AVal) → List (AVal × AVal)
  | [] => []
  | (k', v') :: r => match aeq1 k k' with
    | some true => r
    | _ => (k', v') :: adelMap k r

def getMap (h : Heap) : AVal → Option (List (AVal × AVal))
  | .nilmap => some []
  | .map id => match h[id]? with
    | some (.map es) => some es
    | _ => none
  | _ => none

def alookup (zero : AVal) (ok : Bool) (h : Heap) (m k : AVal) : Option AVal :=
  match getMap h m with
  | some es => match afind k es with
    | some (some v) => some (bif ok then .tuple [v, .bool true] else v)
    | some none => some (bif ok then .tuple [zero, .bool false] else zero)
    | none => none
  | none => none

def amapSet (h : Heap) (m k v : AVal) : Option Heap :=
  match m with
  | .map id => match h[id]? with
    | some (.map es) => match afind k es with
      | some _ => some (h.set id (.map (aputMap k v es)))
      | none => none
    | _ => none
  | _ => none

def amapDel (h : Heap) (m k : AVal) : Option Heap :=
  match m with
  | .nilmap => if akeyOk k then some h else none
  | .map id => match h[id]? with
    | some (.map es) => if akeyOk k ∧ (afind k es).isSome then some (h.set id (.map (adelMap k es))) else none
    | _ => none
  | _ => none

def aclearMap (h : Heap) (m : AVal) : Option Heap :=
  match m with
  | .nilmap => some h
  | .map id => match h[id]? with
    | some (.map _) => some (h.set id (.map []))
    | _ => none
  | _ => none

/-- The keys of a map of integers, and that all of it is integers. -/
def aintKeys : List (AVal × AVal) → Option (List Int)
  | [] => some []
  | (.int .i64 n, .int .i64 m) :: r => if (Lit.int .i64 n).wf = true ∧ (Lit.int .i64 m).wf = true then (aintKeys r).map (n :: ·) else none
  | _ => none
/-- A map's keys, in rising order. -/
def asortedKeys (h : Heap) (m : AVal) : Option AVal :=
  match m with
  | .map id => match h[id]? with
    | some (.map es) => match aintKeys es with
      | some ns => if ns.length ≤ 1048576 then some (.slice ((ns.mergeSort fun x y => decide (x ≤ y)).map fun n => [.int .i64 n]) .no) else none
      | none => none
    | _ => none
  | _ => none
def sortC (args : List AVal) (h : Heap) : Option (Res × Heap) :=
  match args with
  | [m] => (asortedKeys h m).map fun v => (.ret v, h)
  | _ => none

/-- A row's bytes, each of them one. -/
def rowBytes : List (List AVal) → Option (List UInt8)
  | [] => some []
  | [.int .u8 n] :: r => if 0 ≤ n ∧ n < 256 then (match rowBytes r with
    | some bs => some (UInt8.ofNat n.toNat :: bs)
    | none => none) else none
  | _ => none
def getC (h : Heap) (id : Nat) : Option (List AVal) :=
  match h[id]? with
  | some (.cells cs) => some cs
  | some (.tcells _ cs) => some cs
  | _ => none
/-- A strings.Builder's String: its bytes are written into no more. -/
def bldS (e : Nat) (h : Heap) (s : AVal) : Option (Res × Heap) :=
  match s with
  | .slice [] .nil => some (.ret (.str []), h)
  | .slice rows (.own fid) => match h[fid]? with
    | some (.front n sz t) => bif rows.length == n then (match n with
      | 0 => bif sz == 0 then some (.ret (.str []), h) else none
      | _ + 1 => bif sz == 1 && t == e + 1 then (match rowBytes rows with
        | some bs => some (.ret (.str bs), h.set fid .gone)
        | none => none) else none) else none
    | _ => none
  | _ => none

/-- A function that is run by its contract. -/
def primC (bld : Nat → Nat → Nat → Bool) (k : PrmK) (args : List AVal) (h : Heap) : Option (Res × Heap) :=
  match k with
  | .copyCheck => match args with
    | [.ptr id off] => match getT h id with
      | some x => bif bld x.1 off x.2.length then (match x.2[off]? with
        | some .nilptr => some (.ret (.tuple []), h.set id (.tcells x.1 (putCells x.2 off [.ptr id off])))
        | some (.ptr id' off') => if id' = id ∧ off' = off then some (.ret (.tuple []), h.set id (.tcells x.1 (putCells x.2 off [.ptr id off]))) else none
        | _ => none) else none
      | none => none
    | _ => none
  | .bldString e => match args with
    | [.ptr id off] => match getC h id with
      | some cs => match cs[off + 1]? with
        | some s => bldS e h s
        | none => none
      | none => none
    | _ => none
  | .fn g => (g args).map fun v => (.ret v, h)

/-- The number that stands first in a number's row. -/
def rowKey (rows : List (List AVal)) (x : Int) : Option Int :=
  if 0 ≤ x then match rows[x.toNat]? with
    | some (.int .i64 a :: _) => some a
    | _ => none
  else none
def lexLe (key : Int → Int) (x y : Int) : Bool := decide (key x < key y) || (decide (key x = key y) && decide (x ≤ y))
def insL (le : Int → Int → Bool) (x : Int) : List Int → List Int
  | [] => [x]
  | y :: r => bif le x y then x :: y :: r else y :: insL le x r
def sortL (le : Int → Int → Bool) : List Int → List Int
  | [] => []
  | x :: r => insL le x (sortL le r)
def aints : List AVal → Option (List Int)
  | [] => some []
  | .int .i64 n :: r => (aints r).map (n :: ·)
  | _ :: _ => none
/-- slices.SortFunc, where the comparison is g: by what stands first in a number's row, then by the number. -/
def sortF (g : Nat) (args : List AVal) (h : Heap) : Option (Res × Heap) :=
  match args with
  | [.slice [] _, .func g' [] _] => if g' = g then some (.ret (.tuple []), h) else none
  | [.vslice id tot 0 n 1, .func g' [] [.ptr pid po]] =>
    match getVec h id tot, h[pid]? with
    | some x, some (.cells cs) => match cs[po]?, aints (x.2.take n) with
      | some (.slice rows _), some xs =>
        if g' = g ∧ pid ≠ id ∧ x.1 = 1 ∧ 0 < n ∧ n ≤ x.2.length ∧ n ≤ 1048576 ∧ (rows.all fun r => r.length == 2) = true ∧ (xs.all fun x => (rowKey rows x).isSome) = true
        then some (.ret (.tuple []), h.set id (.vec tot 1 (putCells x.2 0 ((sortL (lexLe fun x => (rowKey rows x).getD 0) xs).map (.int .i64))))) else none
      | _, _ => none
    | _, _ => none
  | _ => none

def alenMap (h : Heap) (m : AVal) : Option AVal :=
  match getMap h m with
  | some es => some (.int .i64 es.length)
  | none => none
end
section
noncomputable section
open Go

/-! ### Which temporaries a piece of code reads before it has written them, and which it has written when it ends normally (bits) -/

def bitOf (t : Nat) : Nat := 1 <<< t
def operBits (o : Oper) : Nat := o.op.operands.toList.foldl (fun m x => match x with | .tmp t => m ||| bitOf t | _ => m) 0
def dstBit (o : Oper) : Nat := match o.dst with | some d => bitOf d | none => 0
def udOps (full : Nat) : List Oper → Nat × Nat → Nat × Nat
  | [], a => a
  | o :: r, (u, d) => udOps full r (u ||| (operBits o &&& (full ^^^ d)), d ||| dstBit o)

def hasExit (id : Nat) : Code → Bool
  | .exit j => j == id
  | .seq a b | .cond _ a b => hasExit id a || hasExit id b
  | .block _ c | .loop c | .scope c => hasExit id c
  | _ => false
/-- May the code be left, but by its end? -/
def leaves : List Nat → Code → Bool
  | ids, .exit j => !(ids.contains j)
  | ids, .seq a b | ids, .cond _ a b => leaves ids a || leaves ids b
  | ids, .block id c => leaves (id :: ids) c
  | ids, .loop c => leaves ids c
  | ids, .scope c => leaves ids c
  | _, .skip | _, .region _ _ _ | _, .label _ => false
  | _, _ => true
def opPanics (o : Oper) : Bool := match o.op with | .panic _ => true | _ => false
def falls : Code → Bool
  | .skip => true
  | .region _ ops _ => !(ops.toList.any opPanics)
  | .seq a b => falls a && falls b
  | .cond _ a b => falls a || falls b
  | .block id c => falls c || hasExit id c
  | .scope c => falls c
  | .label _ => true
  | _ => false

/-- How often what follows a block would be told. -/
def nSites (id : Nat) : Code → Nat
  | .exit j => bif j == id then 1 else 0
  | .seq a b => nSites id a + nSites id b
  | .cond _ a b => bif falls a && falls b then (bif leaves [] a || leaves [] b then 1 else 0) else nSites id a + nSites id b
  | .block j c => bif decide (2 ≤ nSites j c + bif falls c then 1 else 0) then 1 else nSites id c
  | .loop _ => 1
  | .scope c => nSites id c
  | _ => 0

/-- (read first, written for sure) -/
def ud (full : Nat) : Code → Nat × Nat
  | .skip => (0, 0)
  | .region _ ops _ => udOps full ops.toList (0, 0)
  | .seq a b => let (u, d) := ud full a; let (u', d') := ud full b; (u ||| (u' &&& (full ^^^ d)), d ||| d')
  | .cond c a b => let (u, d) := ud full a; let (u', d') := ud full b
    ((match c with | .tmp t => bitOf t | _ => 0) ||| u ||| u', (bif falls a then d else full) &&& (bif falls b then d' else full))
  | .block id c => let (u, d) := ud full c; (u, bif hasExit id c then 0 else d)
  | .loop c => ((ud full c).1, full)
  | .scope c => ud full c
  | .label _ => (0, 0)
  | .rangeFunc g _ a b => ((match g with | .tmp t => bitOf t | _ => 0) ||| (ud full a).1 ||| (ud full b).1, 0)
  | _ => (0, full)
def ue (full : Nat) (c : Code) : Nat := (ud full c).1

/-! ### Packing the live temporaries -/

def packFrom (L : Nat) : Nat → List AVal → List AVal
  | _, [] => []
  | i, v :: r => bif L.testBit i then v :: packFrom L (i + 1) r else packFrom L (i + 1) r
def pack (L : Nat) (ρ : List AVal) : List AVal := packFrom L 0 ρ
def unpackFrom (L : Nat) (x : List AVal) : Nat → Nat → Nat → List AVal
  | 0, _, _ => []
  | n + 1, i, j => bif L.testBit i then x.getD j .junk :: unpackFrom L x n (i + 1) (j + 1) else .junk :: unpackFrom L x n (i + 1) j
def unpack (n L : Nat) (x : List AVal) : List AVal := unpackFrom L x n 0 0

/-! ### Combinators -/

def Ex.thenDo (e : Ex) (kn : Option R) (ke : Ex → Option R) : Option R :=
  match e with
  | .normal => kn
  | e => ke e
def Ex.nrm (e : Ex) (kn : Option R) : Option R :=
  match e with
  | .normal => kn
  | _ => none
def Ex.inBlock (id : Nat) (e : Ex) (kn : Option R) (ke : Ex → Option R) : Option R :=
  match e with
  | .normal => kn
  | .exit j => bif j == id then kn else ke (.exit j)
  | e => ke e
def bindRes (x : Option (Res × Heap)) (kv kp : AVal → Heap → Option R) : Option R :=
  x.bind fun r => match r.1 with
    | .ret v => kv v r.2
    | .pan v => kp v r.2
def bindVH (x : Option (AVal × Heap)) (k : AVal → Heap → Option R) : Option R := x.bind fun r => k r.1 r.2
def acond (v : AVal) (t e : Option R) : Option R :=
  match v with
  | .bool b => bif b then t else e
  | _ => none

/-! ### What the types of the program say -/

def isAggT (P : Program) (t : TypeId) : Option Bool :=
  match P.underlying t with
  | some (.struct _) | some (.array _ _) => some true
  | some _ => some false
  | none => none
def sizeT (P : Program) (t : TypeId) : Option Nat := (P.info? t).map (·.size)
def bytesT (P : Program) (t : TypeId) : Option Nat := (P.info? t).map (·.bytes)
def zeroT (P : Program) (t : TypeId) : Option AVal := (P.info? t).bind fun i => i.zero.map ofConst
/-- '==' on this type is '==' of all its cells, in their order: their kinds. -/
def eqKindsFs (P : Program) (eqT : TypeId → Option (List Kd)) : List Field → Nat → Option (List Kd)
  | [], _ => some []
  | f :: r, off => bif f.name == "_" || f.offset != off then none else match eqT f.type with
    | some ks => bif sizeT P f.type == some ks.length && ks.length != 0 then match eqKindsFs P eqT r (off + ks.length) with
        | some l => some (ks ++ l)
        | none => none
      else none
    | none => none
def eqKinds (P : Program) : Nat → TypeId → Option (List Kd)
  | 0, _ => none
  | d + 1, t => match P.underlying t with
    | some .bool => some [.b]
    | some (.int _) => some [.i]
    | some .string => some [.s]
    | some (.struct fs) => bif P.stoodInHeld t then none else eqKindsFs P (eqKinds P d) fs.toList 0
    | _ => none
def eqStruct (P : Program) (t : TypeId) : Option (List Kd) :=
  match eqKinds P 12 t with
  | some ks => bif P.eqGuardType P.depth t then none else some ks
  | none => none

/-! ### The orders of a region -/

def nilConst : Operand → Bool
  | .const (.slice none 0 0) => true
  | _ => false
/-- Does the operation act on the heap (or may it panic on purpose)? -/
def isEff (o : Oper) : Bool :=
  match o.op with
  | .alloc _ | .box .. | .buildSlice .. | .makeSlice .. | .makeMap .. | .store .. | .mapUpdate .. | .insert .. | .panic _ => true
  | .assign x => nilConst x
  | .call c => match c.callee with
    | .builtin .len | .builtin .cap | .builtin .min | .builtin .max => false
    | _ => true
  | _ => false
def isRead (o : Oper) : Option Operand :=
  match o.op with
  | .load _ a => some a
  | .lookup _ m _ _ => some m
  | _ => none
def closFrom : List Oper → List Nat → List Nat
  | [], acc => acc
  | o :: r, acc => closFrom r (acc ++ [o.after.toList.foldl (fun m e => bif Region.binds .any e then m ||| bitOf e.on ||| acc.getD e.on 0 else m) 0])
def clos (ops : List Oper) : List Nat := closFrom ops []
def subMask (a b : Nat) : Bool := (a &&& b) == a

def pickOp (ok : Nat → Bool) (cl : List Nat) (done : Nat) : List Nat → Option Nat
  | [] => none
  | i :: r => bif !(done.testBit i) && subMask (cl.getD i 0) done && ok i then some i else pickOp ok cl done r
/-- One item of a region's run: the operation, which reads ahead of it lie open against it; 'rsv': a new block whose place is kept (it is made at some time); 'hid': a call that sees nothing of the region's blocks. -/
structure Item where
  i : Nat
  o : Oper
  locks : List Nat
  rsv : Option Nat := none
  hid : Bool := false

def isFloatOp (o : Oper) : Bool := o.guard.isNone && match o.op with | .alloc _ | .box .. | .buildSlice .. => true | _ => false
def isCallOp (o : Oper) : Bool := o.guard.isNone && match o.op with | .call c => (match c.callee with | .value _ => true | _ => false) | _ => false
def unord (cl : List Nat) (i j : Nat) : Bool := (i != j) && !((cl.getD i 0).testBit j) && !((cl.getD j 0).testBit i)
def opIs (f : Oper → Bool) (ops : List Oper) (i : Nat) : Bool := match ops[i]? with | some o => f o | none => false
/-- The new blocks that lie open against another effect. -/
def floatsOf (ops : List Oper) (cl : List Nat) : List Nat :=
  (List.range ops.length).filter fun i => opIs isFloatOp ops i && (List.range ops.length).any fun j => opIs isEff ops j && unord cl i j
def placeIn : List Nat → Nat → Nat → Option Nat
  | [], _, _ => none
  | a :: r, i, k => bif a == i then some k else placeIn r i (k + 1)

def itemsFrom (ops : List Oper) (cl fl : List Nat) : List Nat → List Nat → List Item
  | [], _ => []
  | i :: r, before => match ops[i]? with
    | some o =>
      { i, o, locks := bif isEff o then before.filter (fun p => !((cl.getD i 0).testBit p) && match ops[p]? with | some q => (isRead q).isSome | none => false) else [],
        rsv := placeIn fl i 0, hid := isCallOp o && fl.any (unord cl i) } ::
        itemsFrom ops cl fl r (before ++ [i])
    | none => []

def opTmps (o : Oper) : List Tmp := o.op.operands.toList.filterMap fun x => match x with | .tmp t => some t | _ => none
def gTmp (ops : List Oper) (o : Oper) : Option Tmp := match o.guard with
  | some (j, _) => (ops[j]?).bind (·.dst)
  | none => none
def looksL (ops : List Oper) (o : Oper) : List Tmp := opTmps o ++ (gTmp ops o).toList
def offL (d : Option Tmp) (ts : List Tmp) : Bool := match d with
  | some d => !(ts.contains d)
  | none => true
def apartL (ops : List Oper) (x y : Oper) : Bool :=
  offL x.dst (looksL ops y) && offL y.dst (looksL ops x) && offL x.dst y.dst.toList
/-- 'p' may come after 'it' as well. -/
def indep (ops : List Oper) (p it : Item) : Bool :=
  apartL ops p.o it.o && match p.rsv, it.rsv with
  | some a, some b => a != b
  | some _, none => bif it.hid then true else !(isEff it.o) && (isRead it.o).isNone
  | none, some _ => bif p.hid then p.locks.isEmpty else !(isEff p.o) && p.locks.isEmpty
  | none, none => bif p.hid then p.locks.isEmpty && (!it.hid && (!(isEff it.o) && (isRead it.o).isNone))
      else !(isEff p.o) && p.locks.isEmpty && (!((isRead p.o).isSome) || !(isEff it.o) || it.locks.contains p.i)
def pairOk (ops : List Oper) (cl : List Nat) (p it : Item) : Bool :=
  (p.i != it.i) && !((cl.getD p.i 0).testBit it.i) && ((cl.getD it.i 0).testBit p.i || indep ops p it)
def pairsOk (ops : List Oper) (cl : List Nat) : List Item → Bool
  | [] => true
  | p :: r => r.all (pairOk ops cl p) && pairsOk ops cl r
/-- All edges go backwards. -/
def edgesOk (ops : List Oper) : Bool :=
  (ops.zipIdx).all fun (o, i) => o.after.toList.all fun e => !(Region.binds .any e) || decide (e.on < i)
def itemAt (ops : List Oper) (it : Item) : Option Oper := ops[it.i]?

def orderGo (ops : List Oper) (cl fl : List Nat) (n : Nat) : Nat → Nat → List Nat
  | 0, _ => []
  | fuel + 1, done =>
    let light (i : Nat) : Bool := match ops[i]? with | some o => !(isEff o) | none => false
    match pickOp light cl done (List.range n) with
    | some i => i :: orderGo ops cl fl n fuel (done ||| bitOf i)
    | none => match pickOp (fun i => fl.contains i) cl done (List.range n) with
      | some i => i :: orderGo ops cl fl n fuel (done ||| bitOf i)
      | none => match pickOp (fun _ => true) cl done (List.range n) with
        | some i => i :: orderGo ops cl fl n fuel (done ||| bitOf i)
        | none => []

def orderOf (ops : List Oper) : List Nat := orderGo ops (clos ops) (floatsOf ops (clos ops)) ops.length ops.length 0
def drawnItems (ops : List Oper) : Option (List Item) :=
  let items := itemsFrom ops (clos ops) (floatsOf ops (clos ops)) (orderOf ops) []
  bif pairsOk ops (clos ops) items && edgesOk ops && (items.length == ops.length) && (List.range ops.length).all (fun i => items.any fun it => it.i == i) then some items else none
def plainItems (ops : List Oper) : List Item := ops.zipIdx.map fun (o, i) => { i, o, locks := [] }

/-! ### One operation -/

def addrId : AVal → Option Nat
  | .ptr id _ => some id
  | .vptr id _ _ => some id
  | .map id => some id
  | _ => none
def lockIds (locks : List Nat) (seen : List AVal) : List Nat := locks.filterMap fun j => addrId (seen.getD j .junk)
def hide1 (h : Heap) (id : Nat) : Heap :=
  match h[id]? with
  | some (.cells _) | some (.map _) | some (.vec _ _ _) | some (.tcells _ _) => h.set id .gone
  | _ => h
def unhide1 (h : Heap) (r : Heap) (id : Nat) : Heap :=
  match h[id]? with
  | some (.cells cs) => r.set id (.cells cs)
  | some (.vec tot sz cs) => r.set id (.vec tot sz cs)
  | some (.map es) => r.set id (.map es)
  | some (.tcells t cs) => r.set id (.tcells t cs)
  | _ => r
def hide (ids : List Nat) (h : Heap) : Heap := ids.foldl hide1 h
def unhide (ids : List Nat) (h h' : Heap) : Heap := ids.foldl (unhide1 h) h'

/-- 'x.(T)' with its second answer: T is no interface. -/
def atypeAssert (t : Nat) (z : AVal) : AVal → Option AVal
  | .iface t' w => some (bif t' == t then .tuple [w, .bool true] else .tuple [z, .bool false])
  | .niliface => some (.tuple [z, .bool false])
  | _ => none

def Ann.vecs (A : Ann) (f t : Nat) : Bool := A.vec f || A.vecT f t
def Ann.vlits (A : Ann) (f t : Nat) : Bool := A.vlit f || A.vlitT f t

structure Cx where
  P : Program
  A : Ann
  K : CallO
  lp : (List AVal × Heap → Option R) → List AVal × Heap → Option R
  n : Nat
  full : Nat
  pan : Bool := false
  vec : Nat → Bool := fun _ => false
  frz : Bool := false
  vlit : Nat → Bool := fun _ => false
  vmk : Bool := false
  jt : Bool := false
  lkp : Bool := false
  rb : Bool := false
  frl : Bool := false
  tb : Bool := false
  ck : Bool := false

def acallee : AVal → Option (Nat × List AVal × List AVal)
  | .func f first cap => some (f, first, cap)
  | _ => none

/-- A method of a struct's own, by its name. -/
def ameth (P : Program) (t : TypeId) (name : String) : Option Nat :=
  match P.info? t with
  | some i => match i.methods.find? (·.name == name) with
    | some m => bif m.path.toList.isEmpty then (match m.func with
      | some (f, false) => match P.underlying t with
        | some (.struct _) => some f
        | _ => none
      | _ => none) else none
    | none => none
  | none => none
def ainvoke (P : Program) (name : String) : AVal → Option (Nat × AVal)
  | .iface t w => (ameth P t name).map fun f => (f, w)
  | _ => none

def anilCheck : AVal → Option AVal
  | .ptr id off => some (.ptr id off)
  | .vptr id tot off => some (.vptr id tot off)
  | .pptr cs => some (.pptr cs)
  | .func f a b => some (.func f a b)
  | _ => none

/-- A new block at a reserved place. -/
def anewAt (id n : Nat) (h : Heap) (v : AVal) : Option (AVal × Heap) :=
  let vs := v.cells
  match h[id]? with
  | some .free => if vs.length = n ∧ vs.all AVal.cellOk then some (.ptr id 0, h.set id (.cells vs)) else none
  | _ => none
def argsFor (A : Ann) (f : Nat) (vs : List AVal) : List AVal := bif A.grow f then vs else vs.map AVal.untok

def apanic (x : AVal) (h : Heap) (kp : AVal → Heap → Option R) : Option R :=
  match x with
  | .iface t w => kp (.iface t w) h
  | _ => none

def elemT (P : Program) (t : TypeId) : Option TypeId :=
  match P.underlying t with
  | some (.slice e) => some e
  | _ => none

def extC (k : ExtK) (args : List AVal) (h : Heap) : Option (Res × Heap) := (extV k args).map fun v => (.ret v, h)
def callE (A : Ann) (K : CallO) (f : Nat) (args : List AVal) (h : Heap) : Option (Res × Heap) :=
  match A.ext f with
  | some k => extC k args h
  | none => K f args h
/-- Two operands that tell the same number. -/
def sameOp : Operand → Operand → Bool
  | .tmp a, .tmp b => a == b
  | .const (.int _ a), .const (.int _ b) => a == b
  | _, _ => false

def builtinOp (cx : Cx) (b : Builtin) (argTypes : List TypeId) (args : List AVal) (h : Heap) (kv : AVal → Heap → Option R) : Option R :=
  match b, argTypes, args with
  | .len, [t], [x] => match cx.P.underlying t with
    | some (.array n _) => kv (.int .i64 n) h
    | some .string => (alenStr x).bind fun w => kv w h
    | some (.slice _) => (alenSl x).bind fun w => kv w h
    | _ => none
  | .min, _, [x, y] => (amin2 x y).bind fun w => kv w h
  | .max, _, [x, y] => (amax2 x y).bind fun w => kv w h
  | .min, _, x :: y :: z :: r => (aminN x (y :: z :: r)).bind fun w => kv w h
  | .max, _, x :: y :: z :: r => (amaxN x (y :: z :: r)).bind fun w => kv w h
  | .append, [t, t'], [s, x] => match elemT cx.P t with
    | some e => bif t != t' then (match cx.P.underlying t', sizeT cx.P e, bytesT cx.P e, zeroT cx.P e with
      | some .string, some sz, some by_, some z => bif z.isJunk then none else bindVH (aappendStr (e + 1) sz by_ z.cells.length h s x) kv
      | _, _, _, _ => none) else match sizeT cx.P e, bytesT cx.P e, zeroT cx.P e with
      | some sz, some by_, some z => bif sz == 0 || z.isJunk || z.cells.length != sz then none else bindVH (bif cx.vec t then aappendV sz by_ h s x else bif cx.tb then aappendT (e + 1) sz by_ h s x else aappend sz by_ h s x) kv
      | _, _, _ => none
    | none => none
  | .copy, [t, t'], [d, x] => match elemT cx.P t, cx.P.underlying t' with
    | some e, some .string => match sizeT cx.P e, zeroT cx.P e with
      | some 1, some (.int .u8 _) => bindVH (acopyS h d x) kv
      | _, _ => none
    | _, _ => none
  | .delete, [t, _], [m, k] => match cx.P.underlying t with
    | some (.map kt _) => match cx.P.underlying kt with
      | some d => bif akeyFor d k then (amapDel h m k).bind fun h' => kv (.tuple []) h' else none
      | none => none
    | _ => none
  | .clear, [t], [x] => match cx.P.underlying t with
    | some (.slice e) => match sizeT cx.P e, zeroT cx.P e with
      | some sz, some z => bif z.isJunk then none else (aclear sz z.cells h x).bind fun h' => kv (.tuple []) h'
      | _, _ => none
    | some (.map _ _) => (aclearMap h x).bind fun h' => kv (.tuple []) h'
    | _ => none
  | _, _, _ => none

/-- One operation, on the heap at hand; 'rsv': where its memory is to lie. -/
def evalOpV (cx : Cx) (o : Oper) (rsv : Option Nat) (v : Operand → AVal) (h : Heap) (kv : AVal → Heap → Option R) (kp : AVal → Heap → Option R) : Option R :=
  match o.op with
  | .move x => kv (v x) h
  | .assign x => bif nilConst x then kv (.slice [] (.own h.length)) (h ++ [.front 0 0]) else kv (v x) h
  | .pick c a b => (apick (v c) (v a) (v b)).bind fun w => kv w h
  | .alloc t => match sizeT cx.P t, zeroT cx.P t with
    | some n, some z => match rsv with
      | none => bindVH (anewB (cx.A.tbt t) t n h z) kv
      | some id => bindVH (anewAt id n h z) kv
    | _, _ => none
  | .box t x => match sizeT cx.P t with
    | some n => match rsv with
      | none => bindVH (anewB (cx.A.tbt t) t n h (v x)) kv
      | some id => bindVH (anewAt id n h (v x)) kv
    | none => none
  | .build t parts => match zeroT cx.P t, cx.P.underlying t with
    | some z, some (.struct fs) =>
      match fs.toList.mapM (fun f => (sizeT cx.P f.type).map fun n => (f.offset, n)) with
      | some places => bif z.isJunk then none else (abuild z.cells places (parts.toList.map fun p => (p.1, v p.2))).bind fun w => kv w h
      | none => none
    | some z, some (.array len e) => match sizeT cx.P e with
      | some n => bif z.isJunk then none else (abuild z.cells ((List.range len).map fun i => (i * n, n)) (parts.toList.map fun p => (p.1, v p.2))).bind fun w => kv w h
      | none => none
    | _, _ => none
  | .buildSlice t len parts => match elemT cx.P t with
    | some e => match sizeT cx.P e, zeroT cx.P e with
      | some n, some z => bif n == 0 || z.isJunk || decide (len * n > 16777216) then none else match rsv with
        | none => bindVH (bif cx.vlit t then abuildSliceV len n z.cells (parts.toList.map fun p => (p.1, v p.2)) h else abuildSlice len n z.cells (parts.toList.map fun p => (p.1, v p.2)) h) kv
        | some id => bindVH (abuildSliceAt id len n z.cells (parts.toList.map fun p => (p.1, v p.2)) h) kv
      | _, _ => none
    | none => none
  | .load t a => match isAggT cx.P t, sizeT cx.P t with
    | some g, some n => (aloadB cx.tb g n h (v a)).bind fun w => bif cx.rb && cx.frl then bindVH (afreezeA h w) kv else kv w h
    | _, _ => none
  | .store t a x => match sizeT cx.P t with
    | some n => bif cx.frz then (afreeze h (v x)).bind fun y => (astore n y.2 (v a) y.1).bind fun h' => kv (.tuple []) h' else (astoreB cx.tb n h (v a) (v x)).bind fun h' => kv (.tuple []) h'
    | none => none
  | .nilCheck x => (anilCheck (v x)).bind fun w => kv w h
  | .binOp op t x y _ => match op, cx.P.underlying t with
    | .eql, some (.struct _) => match eqStruct cx.P t with
      | some ks => (aeqAgg ks (v x) (v y)).bind fun b => kv (.bool b) h
      | none => none
    | .neq, some (.struct _) => match eqStruct cx.P t with
      | some ks => (aeqAgg ks (v x) (v y)).bind fun b => kv (.bool (!b)) h
      | none => none
    | _, some .bool => (abinB op (v x) (v y)).bind fun w => kv w h
    | _, some (.int _) | _, some .string => (abin op (v x) (v y)).bind fun w => kv w h
    | _, _ => none
  | .unOp op _ x => (aun op (v x)).bind fun w => kv w h
  | .convert s d x => match cx.P.underlying s, cx.P.underlying d with
    | some (.int _), some (.int k) => (aconvInt k (v x)).bind fun w => kv w h
    | some (.slice e), some .string => match cx.P.underlying e with
      | some (.int .u8) => (bif cx.rb then abytesH h (v x) else abytesStr (v x)).bind fun w => kv w h
      | _ => none
    | _, _ => none
  | .makeMap _ none => kv (.map h.length) (h ++ [.map []])
  | .makeSlice t l c => match elemT cx.P t with
    | some e => match sizeT cx.P e, bytesT cx.P e, zeroT cx.P e with
      | some n, some by_, some z => bif n == 0 || z.isJunk || z.cells.length != n || !(z.cells.all AVal.cellOk) || !(sameOp l c) then none else bindVH (bif cx.vmk then amakeSliceV n by_ z.cells (v l) h else amakeSlice n by_ z.cells (v l) h) kv
      | _, _, _ => none
    | none => none
  | .lookup t m k ok => match cx.P.underlying t with
    | some (.map kt e) => match cx.P.underlying kt, zeroT cx.P e with
      | some d, some z => bif akeyFor d (v k) then (alookup z ok h (v m) (v k)).bind fun w => kv w h else none
      | _, _ => none
    | _ => none
  | .mapUpdate t m k x => match cx.P.underlying t with
    | some (.map kt _) => match cx.P.underlying kt with
      | some d => bif akeyFor d (v k) then (amapSet h (v m) (v k) (v x)).bind fun h' => kv (.tuple []) h' else none
      | none => none
    | _ => none
  | .makeInterface t x => match cx.P.underlying t with
    | some (.interface _) => none
    | some _ => kv (.iface t (v x)) h
    | none => none
  | .makeFunc (.func f) first cap => kv (.func f (first.toList.map v) (cap.toList.map v)) h
  | .slice t x lo hi none => match cx.P.underlying t with
    | some .string => (asliceStr (v x) (lo.map v) (hi.map v)).bind fun w => kv w h
    | some (.slice e) => match sizeT cx.P e with
      | some n => (asliceSl n (v x) (lo.map v) (hi.map v)).bind fun w => kv w h
      | none => none
    | some (.array len e) => match sizeT cx.P e with
      | some n => (asliceArr len n (v x) (lo.map v) (hi.map v)).bind fun w => kv w h
      | none => none
    | _ => none
  | .fieldAddr s x f => match cx.P.underlying s with
    | some (.struct fs) => match fs[f]? with
      | some fd => match sizeT cx.P fd.type with
        | some (_ + 1) => (afieldAt fd.offset (v x)).bind fun w => kv w h
        | _ => none
      | none => none
    | _ => none
  | .field t x f => match cx.P.underlying t with
    | some (.struct fs) => match fs[f]? with
      | some fd => match isAggT cx.P fd.type, sizeT cx.P fd.type with
        | some g, some n => (afield g n fd.offset (v x)).bind fun w => kv w h
        | _, _ => none
      | none => none
    | _ => none
  | .indexAddr t x i => match cx.P.underlying t with
    | some (.slice e) => match sizeT cx.P e with
      | some (n + 1) => (aindexSl (n + 1) (v x) (v i)).bind fun w => kv w h
      | _ => none
    | some (.array len e) => match sizeT cx.P e with
      | some (n + 1) => (aindexAt len (n + 1) (v x) (v i)).bind fun w => kv w h
      | _ => none
    | _ => none
  | .index t x i => match cx.P.underlying t with
    | some .string => (aindexStr (v x) (v i)).bind fun w => kv w h
    | some (.array len e) => match isAggT cx.P e, sizeT cx.P e with
      | some g, some n => (aindexArr g len n (v x) (v i)).bind fun w => kv w h
      | _, _ => none
    | _ => none
  | .extract x i => (aextract i (v x)).bind fun w => kv w h
  | .typeAssert x _ t true => match cx.P.underlying t with
    | some (.interface _) => none
    | some _ => match zeroT cx.P t with
      | some z => (atypeAssert t z (v x)).bind fun w => kv w h
      | none => none
    | none => none
  | .panic x => apanic (v x) h kp
  | .call c => match c.callee with
    | .builtin b => builtinOp cx b c.argTypes.toList (c.args.toList.map v) h kv
    | .value f => (acallee (v f)).bind fun g => bindRes (callE cx.A cx.K g.1 (argsFor cx.A g.1 (g.2.1 ++ c.args.toList.map v ++ g.2.2)) h) kv kp
    | .invoke x name => (ainvoke cx.P name (v x)).bind fun g => bindRes (callE cx.A cx.K g.1 (argsFor cx.A g.1 (g.2 :: c.args.toList.map v)) h) kv kp
  | _ => none

def evalOp (cx : Cx) (o : Oper) (rsv : Option Nat) (ρ : List AVal) (h : Heap) (kv : AVal → Heap → Option R) (kp : AVal → Heap → Option R) : Option R := evalOpV cx o rsv (aval cx.A ρ) h kv kp

def putSlot (ρ : List AVal) (dst : Option Tmp) (v : AVal) : List AVal :=
  match dst with
  | some d => ρ.set d v
  | none => ρ

open Classical in
/-- On, if these blocks are as they were. -/
def chk : List Nat → Heap → Heap → Option R → Option R
  | [], _, _, x => x
  | id :: r, h, h', x => if ∀ b, h[id]? = some b → h'[id]? = some b then chk r h h' x else none
/-- An operation behind its locks. -/
def evalLocked (cx : Cx) (o : Oper) (ids : List Nat) (ρ : List AVal) (h : Heap) (kv : AVal → Heap → Option R) (kp : AVal → Heap → Option R) : Option R :=
  bif cx.ck then evalOp cx o none ρ h (fun v h' => chk ids h h' (kv v h')) kp
  else evalOp cx o none ρ (hide ids h) (fun v h' => kv v (unhide ids h h')) (fun v h' => kp v (unhide ids h h'))

/-- What is done with one answer. -/
def fin0 (kv kp : AVal → Heap → Option R) : R → Option R
  | (.normal, [v], h) => kv v h
  | (.pan v, _, h) => kp v h
  | _ => none
def kv0 (v : AVal) (h : Heap) : Option R := some (.normal, [v], h)
def kp0 (v : AVal) (h : Heap) : Option R := some (.pan v, [], h)

def guardSel (want : Bool) (g : AVal) (run skip : Option R) : Option R :=
  match g with
  | .bool g => bif want then (bif g then run else skip) else (bif g then skip else run)
  | .tuple [] => skip
  | _ => none

def evalItem (cx : Cx) (ops : List Oper) (o : Oper) (ids : List Nat) (ρ : List AVal) (h : Heap) (kv : AVal → Heap → Option R) (kp : AVal → Heap → Option R) : Option R :=
  match o.guard with
  | none => evalLocked cx o ids ρ h kv kp
  | some (j, want) => match (ops[j]?).bind (·.dst) with
    | some d => (guardSel want (ρ.getD d .junk) (evalLocked cx o ids ρ h kv0 kp0) (kv0 (.tuple []) h)).bind (fin0 kv kp)
    | none => none

def seenAt (A : Ann) (o : Oper) (ρ : List AVal) : AVal := match isRead o with
  | some a => aval A ρ a
  | none => .junk

/-- A value that a call may see which sees nothing from m on. -/
def shutOr (m : Nat) (v : AVal) : AVal := bif v.shut1 m then v else .junk
def blkShut (m : Nat) : ABlk → Bool
  | .cells cs => cs.all (AVal.shut1 m)
  | .vec _ _ cs => cs.all (AVal.shut1 m)
  | .tcells _ cs => cs.all (AVal.shut1 m)
  | .map es => es.all fun e => e.2.shut1 m
  | _ => true
def hidK (m : Nat) (h : Heap) (kv : AVal → Heap → Option R) : R → Option R
  | (.normal, [v], h') => bif h'.length == m then kv v (h' ++ h.drop m) else none
  | _ => none
/-- A call that sees the blocks below m alone. -/
def evalHid (cx : Cx) (o : Oper) (m : Nat) (ids : List Nat) (ρ : List AVal) (h : Heap) (kv : AVal → Heap → Option R) : Option R :=
  bif (h.take m).all (blkShut m) then (evalLocked cx o ids (ρ.map (shutOr m)) (h.take m) kv0 kp0).bind (hidK m h kv) else none

def evalItemF (cx : Cx) (ops : List Oper) (m : Nat) (it : Item) (ids : List Nat) (ρ : List AVal) (h : Heap) (kv : AVal → Heap → Option R) (kp : AVal → Heap → Option R) : Option R :=
  match it.rsv with
  | some j => bif isFloatOp it.o then evalOp cx it.o (some (m + j)) ρ h kv (fun _ _ => none) else none
  | none => bif it.hid then (bif isCallOp it.o then evalHid cx it.o m ids ρ h kv else none) else evalItem cx ops it.o ids ρ h kv kp

/-- A list, looked at to its end. -/
def forceL {α : Type} : List AVal → (List AVal → α) → α
  | [], k => k []
  | x :: xs, k => forceL xs fun ys => k (x :: ys)
theorem forceL_eq {α : Type} : ∀ {l : List AVal} {k : List AVal → α}, forceL l k = k l
  | [], _ => rfl
  | x :: xs, k => by rw [forceL, forceL_eq]

/-- A region's run. 'seen': the addresses of the reads so far, by their numbers; 'm': where the region's blocks begin. -/
def evalItems (cx : Cx) (ops : List Oper) (m : Nat) : List Item → List AVal → List AVal → Heap → (List AVal → Heap → Option R) → (AVal → Heap → Option R) → Option R
  | [], _, ρ, h, k, _ => k ρ h
  | it :: rest, seen, ρ, h, k, kp =>
    evalItemF cx ops m it (lockIds it.locks seen) ρ h (fun v h' => forceL (putSlot ρ it.o.dst v) fun ρ' => evalItems cx ops m rest (seen.set it.i (seenAt cx.A it.o ρ)) ρ' h' k kp) kp

def nFloats : List Item → Nat
  | [] => 0
  | it :: r => match it.rsv with | some _ => nFloats r + 1 | none => nFloats r
def frees : Nat → List ABlk
  | 0 => []
  | n + 1 => .free :: frees n
/-- Places for so many blocks. -/
def reserve (n : Nat) (h : Heap) : Heap :=
  match n with
  | 0 => h
  | n + 1 => h ++ frees (n + 1)

def evalRegion (cx : Cx) (ops : List Oper) (draw : Bool) (ρ : List AVal) (h : Heap) (k : List AVal → Heap → Option R) (kp : AVal → Heap → Option R) : Option R :=
  match draw with
  | false => evalItems cx ops 0 (plainItems ops) [] ρ h k kp
  | true => match drawnItems ops with
    | some items => evalItems { cx with rb := false } ops h.length items (List.replicate ops.length .junk) ρ (reserve (nFloats items) h) k kp
    | none => none

def packN (L : Nat) (ρ : List AVal) (h : Heap) : Option R := some (.normal, pack L ρ, h)
def packE (L : Nat) (e : Ex) (ρ : List AVal) (h : Heap) : Option R := some (e, pack L ρ, h)
/-- Where an operation panics. -/
def panK (b : Bool) (ke : Ex → List AVal → Heap → Option R) (ρ : List AVal) : AVal → Heap → Option R :=
  match b with
  | true => fun v h => ke (.pan v) ρ h
  | false => fun _ _ => none
def Ex.san (m : Nat) (h : Heap) : Ex → Ex
  | .pan v => .pan (v.san m h)
  | e => e
/-- The end of a loop's round. -/
def endR (m : Nat) (e : Ex) (vs : List AVal) (h : Heap) : Option R := (trunc m h).map fun h' => (e.san m h, vs.map (·.san m h), h')
/-- Where ways meet: the blocks that were made since then are dropped, or all stays. -/
def endJ (j : Bool) (m L : Nat) (e : Ex) (ρ : List AVal) (h : Heap) : Option R :=
  match j with
  | false => some (e, pack L ρ, h)
  | true => endR m e (pack L ρ) h
def endRound (m L : Nat) (e : Ex) (ρ : List AVal) (h : Heap) : Option R := endR m e (pack L ρ) h

/-- The same, where blocks are kept. -/
def endLp (k : Bool) (m L : Nat) (e : Ex) (ρ : List AVal) (h : Heap) : Option R :=
  match k with
  | false => endRound m L e ρ h
  | true => some (e, pack L ρ, h)

def evalCode (cx : Cx) : Code → Nat → List AVal → Heap → (List AVal → Heap → Option R) → (Ex → List AVal → Heap → Option R) → Option R
  | .skip, _, ρ, h, kn, _ => kn ρ h
  | .region _ ops draw, _, ρ, h, kn, ke => evalRegion cx ops.toList draw ρ h kn (panK cx.pan ke ρ)
  | .seq a b, L, ρ, h, kn, ke => evalCode cx a (L ||| ue cx.full b) ρ h (fun ρ' h' => evalCode cx b L ρ' h' kn ke) ke
  | .cond c a b, L, ρ, h, kn, ke =>
    bif falls a && falls b then
      (acond (aval cx.A ρ c) (evalCode cx a L ρ h (endJ cx.jt h.length L .normal) (endJ cx.jt h.length L)) (evalCode cx b L ρ h (endJ cx.jt h.length L .normal) (endJ cx.jt h.length L))).bind fun r =>
        bif cx.pan || (leaves [] a || leaves [] b) then r.1.thenDo (kn (unpack cx.n L r.2.1) r.2.2) fun e => ke e (unpack cx.n L r.2.1) r.2.2
        else r.1.nrm (kn (unpack cx.n L r.2.1) r.2.2)
    else acond (aval cx.A ρ c) (evalCode cx a L ρ h kn ke) (evalCode cx b L ρ h kn ke)
  | .block id c, L, ρ, h, kn, ke =>
    bif decide (2 ≤ nSites id c + bif falls c then 1 else 0) then
      (evalCode cx c L ρ h (endJ cx.jt h.length L .normal) (endJ cx.jt h.length L)).bind fun r => r.1.inBlock id (kn (unpack cx.n L r.2.1) r.2.2) fun e => ke e (unpack cx.n L r.2.1) r.2.2
    else evalCode cx c L ρ h kn fun e ρ' h' => e.inBlock id (kn ρ' h') fun e => ke e ρ' h'
  | .loop c, L, ρ, h, _, ke =>
    (cx.lp (fun s => evalCode cx c (L ||| ue cx.full c) (unpack cx.n (L ||| ue cx.full c) s.1) s.2 (endLp cx.lkp h.length (L ||| ue cx.full c) .normal) (endLp cx.lkp h.length (L ||| ue cx.full c)))
        (pack (L ||| ue cx.full c) ρ, h)).bind
      fun r => r.1.thenDo none fun e => ke e (unpack cx.n (L ||| ue cx.full c) r.2.1) r.2.2
  | .scope c, L, ρ, h, kn, ke => evalCode cx c L ρ h kn ke
  | .label _, _, ρ, h, kn, _ => kn ρ h
  | .exit id, _, ρ, h, _, ke => ke (.exit id) ρ h
  | .ret, _, ρ, h, _, ke => ke .ret ρ h
  | _, _, _, _, _, _ => none

/-! ### Ranges over functions -/

/-- Code that may stand in a round. -/
def plainRd : Code → Bool
  | .skip | .exit _ | .ret => true
  | .region _ ops _ => ops.toList.all fun o => match o.op with | .defer _ => false | _ => true
  | .seq a b | .cond _ a b => plainRd a && plainRd b
  | .block _ c | .loop c => plainRd c
  | _ => false
def setPs (ρ : List AVal) (ps : List Nat) (e : List AVal) : List AVal := ps.zipIdx.foldl (fun ρ x => ρ.set x.1 (e.getD x.2 .junk)) ρ
/-- What a value that is ranged over hands to the rounds. -/
def aiter (A : Ann) (n : Nat) (v : AVal) (h : Heap) : Option (IterK × List AVal × List (List AVal)) :=
  match v with
  | .func f [] cap => match A.itr f with
    | some k => match k.seq cap h with
      | some es => bif es.all (fun e => e.length == n) then some (k, cap, es) else none
      | none => none
    | none => none
  | _ => none
open Classical in
def onIf (p : Prop) (x : Option R) : Option R := if p then x else none
theorem onIf_some {p : Prop} {x : Option R} {s : R} : onIf p x = some s ↔ p ∧ x = some s := by
  unfold onIf
  split
  · rename_i h; simp [h]
  · rename_i h; simp [h]
/-- Round by round; what the iterator reads must be as it was. -/
def rfL (cap : List AVal) (h0 : Heap) (F : List AVal → Heap → Option R) : List (List AVal) → Heap → Option R
  | [], h => some (.normal, [], h)
  | e :: r, h => (F e h).bind fun s => s.1.thenDo (onIf (∀ p ∈ cap, aload false 1 s.2.2 p = aload false 1 h0 p) (rfL cap h0 F r s.2.2)) fun ex => some (ex, [], s.2.2)
def Ex.onlyOut (e : Ex) (x : Option R) : Option R :=
  match e with
  | .ret | .exit _ => x
  | _ => none
def endOut (m : Nat) (e : Ex) (_ : List AVal) (h : Heap) : Option R := e.onlyOut (endR m e [] h)
def endRd (m : Nat) (_ : List AVal) (h : Heap) : Option R := endR m .normal [] h
/-- One round. -/
def evalRd (cx : Cx) (ps : List Nat) (a b : Code) (ρ : List AVal) (m : Nat) (e : List AVal) (h : Heap) : Option R :=
  evalCode cx a (ue cx.full b) (setPs ρ ps e) h (fun ρ' h' => evalCode cx b 0 ρ' h' (endRd m) (endOut m)) (fun _ _ _ => none)
def evalRg (cx : Cx) : Code → Nat → List AVal → Heap → (List AVal → Heap → Option R) → (Ex → List AVal → Heap → Option R) → Option R
  | .rangeFunc g ps a b, _, ρ, h, kn, ke => bif plainRd a && plainRd b then
      (aiter cx.A ps.size (aval cx.A ρ g) h).bind fun x => (rfL x.2.1 h (evalRd cx ps.toList a b ρ h.length) x.2.2 h).bind fun s => s.1.thenDo (kn ρ s.2.2) fun e => ke e ρ s.2.2
    else none
  | .seq a b, L, ρ, h, kn, ke => evalRg cx a (L ||| ue cx.full b) ρ h (fun ρ' h' => evalRg cx b L ρ' h' kn ke) ke
  | .block id c, L, ρ, h, kn, ke => evalRg cx c L ρ h kn fun e ρ' h' => e.inBlock id (kn ρ' h') fun e => ke e ρ' h'
  | c, L, ρ, h, kn, ke => evalCode cx c L ρ h kn ke

def resBits (fn : Func) : Nat := fn.results.toList.foldl (fun m r => match r with | .tmp t => m ||| bitOf t | .cell a _ => m ||| bitOf a) 0

def aresult (P : Program) (ρ : List AVal) (h : Heap) : ResultVar → Option AVal
  | .tmp t => some (ρ.getD t .junk)
  | .cell a t => match isAggT P t, sizeT P t with
    | some g, some n => aload g n h (ρ.getD a .junk)
    | _, _ => none

/-- The results, one behind the other. -/
def aresults (P : Program) (ρ : List AVal) (h : Heap) : List ResultVar → (List AVal → Option (Res × Heap)) → Option (Res × Heap)
  | [], k => k []
  | .tmp t :: r, k => aresults P ρ h r fun vs => k (ρ.getD t .junk :: vs)
  | .cell a t :: r, k => match isAggT P t, sizeT P t with
    | some g, some n => (aload g n h (ρ.getD a .junk)).bind fun v => aresults P ρ h r fun vs => k (v :: vs)
    | _, _ => none

def oneOf : List AVal → AVal
  | [v] => v
  | vs => .tuple vs

/-- A function's end: nothing of its memory is left. -/
def finR (m : Nat) (v : AVal) (h : Heap) : Option (Res × Heap) := (trunc m h).map fun h' => (.ret (v.san m h).untok, h')
/-- The same, where the answer may be appended to. -/
def finG (m : Nat) (v : AVal) (h : Heap) : Option (Res × Heap) := (trunc m h).map fun h' => (.ret (v.san m h), h')
/-- The same, where the answer is a slice that was written into and is not any more. -/
def finF (m : Nat) (v : AVal) (h : Heap) : Option (Res × Heap) := (afreeze h v).bind fun y => finR m y.1 y.2
/-! ### A function that is run on the blocks alone that its arguments lead to -/
def AVal.refs1 (v : AVal) : List Nat := match refOf v with | some id => [id] | none => []
def AVal.refs : AVal → List Nat
  | .agg cs => cs.flatMap AVal.refs1
  | v => v.refs1
def ABlk.refs : ABlk → List Nat
  | .cells cs => cs.flatMap AVal.refs1
  | .vec _ _ cs => cs.flatMap AVal.refs1
  | .tcells _ cs => cs.flatMap AVal.refs1
  | .map es => es.flatMap fun e => e.2.refs1
  | _ => []
def AVal.ren0 (f : Nat → Nat) : AVal → AVal
  | .ptr id o => .ptr (f id) o
  | .mslice id a b c => .mslice (f id) a b c
  | .vslice id t a b c => .vslice (f id) t a b c
  | .vptr id t o => .vptr (f id) t o
  | .map id => .map (f id)
  | .slice rows (.own id) => .slice rows (.own (f id))
  | v => v
def AVal.ren (f : Nat → Nat) : AVal → AVal
  | .agg cs => .agg (cs.map (AVal.ren0 f))
  | .tuple vs => .tuple (vs.map fun v => match v with | .agg cs => .agg (cs.map (AVal.ren0 f)) | v => v.ren0 f)
  | v => v.ren0 f
def AVal.ok0 (p : Nat → Bool) : AVal → Bool
  | .agg _ => false
  | .tuple _ => false
  | .iface _ _ => false
  | .func _ first cap => first.isEmpty && cap.isEmpty
  | v => match refOf v with | some r => p r | none => true
def AVal.ok (p : Nat → Bool) : AVal → Bool
  | .agg cs => cs.all (AVal.ok0 p)
  | .tuple vs => vs.all fun v => match v with | .agg cs => cs.all (AVal.ok0 p) | v => v.ok0 p
  | v => v.ok0 p
def ABlk.ren (f : Nat → Nat) : ABlk → ABlk
  | .cells cs => .cells (cs.map (AVal.ren0 f))
  | .vec t s cs => .vec t s (cs.map (AVal.ren0 f))
  | .tcells t cs => .tcells t (cs.map (AVal.ren0 f))
  | .map es => .map (es.map fun e => (e.1, e.2.ren0 f))
  | b => b
def ABlk.ok (p : Nat → Bool) : ABlk → Bool
  | .cells cs => cs.all (AVal.ok0 p)
  | .vec _ _ cs => cs.all (AVal.ok0 p)
  | .tcells _ cs => cs.all (AVal.ok0 p)
  | .map es => es.all fun e => e.2.ok0 p
  | _ => true
def Res.ren (f : Nat → Nat) : Res → Res
  | .ret v => .ret (v.ren f)
  | .pan v => .pan (v.ren f)
def Res.ok (p : Nat → Bool) : Res → Bool
  | .ret v => v.ok p
  | .pan v => v.ok p
def idxN : List Nat → Nat → Nat
  | [], _ => 0
  | a :: r, i => bif a == i then 0 else idxN r i + 1
def distinctN : List Nat → Bool
  | [] => true
  | a :: r => !(r.contains a) && distinctN r
def addN (acc : List Nat) : List Nat → List Nat
  | [] => acc
  | i :: r => addN (bif acc.contains i then acc else acc ++ [i]) r
def closeN (h : Heap) : Nat → List Nat → List Nat
  | 0, acc => acc
  | n + 1, acc => closeN h n (addN acc (acc.flatMap fun i => match h[i]? with | some b => b.refs | none => []))
def reach (h : Heap) (args : List AVal) : List Nat := closeN h 3 (addN [] (args.flatMap AVal.refs))
def putBack : List Nat → Heap → Heap → Heap
  | i :: is, b :: bs, h => putBack is bs (h.set i b)
  | _, _, h => h
def subOk (ids : List Nat) (args : List AVal) (h : Heap) : Bool :=
  args.all (AVal.ok fun i => ids.contains i) && (distinctN ids && ids.all fun i => match h[i]? with | some b => b.ok fun i => ids.contains i | none => false)
def subH (ids : List Nat) (h : Heap) : Heap := ids.map fun i => (h.getD i .free).ren (idxN ids)
def subBack (ids : List Nat) (h : Heap) (r : Res × Heap) : Option (Res × Heap) :=
  bif r.2.length == ids.length && (r.2.all (ABlk.ok fun j => decide (j < ids.length)) && r.1.ok fun j => decide (j < ids.length))
  then some (r.1.ren fun j => ids.getD j 0, putBack ids (r.2.map (ABlk.ren fun j => ids.getD j 0)) h) else none
def subI (K : CallO) (ids : List Nat) : CallO := fun f args h =>
  bif subOk ids args h then (K f (args.map (AVal.ren (idxN ids))) (subH ids h)).bind (subBack ids h) else none
def subC (K : CallO) : CallO := fun f args h => subI K (reach h args) f args h

/-- The same, where the answer's own blocks stay. -/
def outIds (m : Nat) (v : AVal) (h : Heap) : List Nat := addN (List.range m) (reach h [v])
def selOk (ids : List Nat) (h : Heap) : Bool := distinctN ids && ids.all fun i => match h[i]? with | some b => b.ok fun i => ids.contains i | none => false
def finOi (ids : List Nat) (v : AVal) (h : Heap) : Option (Res × Heap) := bif v.ok (fun i => ids.contains i) && selOk ids h then some (.ret (v.ren (idxN ids)), subH ids h) else none
def finO (m : Nat) (v : AVal) (h : Heap) : Option (Res × Heap) := finOi (outIds m v h) v h
def finish (A : Ann) (f : Nat) (m : Nat) (v : AVal) (h : Heap) : Option (Res × Heap) :=
  bif A.esc f then some (.ret v, h) else bif A.grow f then finG m v h else bif A.frr f then finF m v h else bif A.out f then finO m v h else finR m v h

def Ex.endF (e : Ex) (x : Option (Res × Heap)) : Option (Res × Heap) :=
  match e with
  | .normal => x
  | .ret => x
  | _ => none
def Ex.endP (e : Ex) (x : Option (Res × Heap)) (xp : AVal → Option (Res × Heap)) : Option (Res × Heap) :=
  match e with
  | .normal => x
  | .ret => x
  | .pan v => xp v
  | _ => none
/-- The end of a function that panics. -/
def finP (m : Nat) (v : AVal) (h : Heap) : Option (Res × Heap) := (trunc m h).map fun h' => (.pan (v.san m h).untok, h')
def endFn (P : Program) (A : Ann) (f : Nat) (fn : Func) (m : Nat) (e : Ex) (ρ : List AVal) (h : Heap) : Option (Res × Heap) :=
  bif A.pan f then e.endP (aresults P ρ h fn.results.toList fun vs => finish A f m (oneOf vs) h) fun v => bif A.kp f then some (.pan v, h) else finP m v h
  else e.endF (aresults P ρ h fn.results.toList fun vs => finish A f m (oneOf vs) h)

/-! ### A function that puts off a call which recovers -/

def isRecover (o : Oper) : Bool := o.guard.isNone && match o.op with | .call c => (match c.callee with | .builtin .recover => true | _ => false) | _ => false
/-- 'defer' of a closure that is handed nothing. -/
def deferOf (o : Oper) : Option Operand :=
  match o.guard, o.op with
  | none, .defer c => match c.callee with
    | .value f => bif c.args.isEmpty && o.dst.isNone then some f else none
    | _ => none
  | _, _ => none
def lastDefer (ops : List Oper) : Option Operand := (ops.getLast?).bind deferOf
/-- Code that leaves some temporaries alone. -/
def okDst (m : Nat) : Code → Bool
  | .region _ ops _ => ops.toList.all fun o => match o.dst with | some d => !(m.testBit d) | none => true
  | .seq a b | .cond _ a b => okDst m a && okDst m b
  | .block _ c | .loop c => okDst m c
  | .skip | .exit _ | .ret => true
  | _ => false
def Ex.endD (e : Ex) (xn : Option R) (xp : AVal → Option R) : Option R :=
  match e with
  | .normal => xn
  | .ret => xn
  | .pan v => xp v
  | _ => none
def Ex.endH (e : Ex) (x : Option Heap) : Option Heap :=
  match e with
  | .normal => x
  | .ret => x
  | _ => none

/-- The call that was put off; 'pv': what its caller panics with. -/
def evalRec (cx : Cx) (g : Nat) (caps : List AVal) (pv : Option AVal) (h : Heap) : Option Heap :=
  match cx.P.funcs[g]? with
  | some fn => match fn.body with
    | some (.seq (.region _ ops false) c) => match ops.toList with
      | o :: _ => bif isRecover o && decide (caps.length ≤ fn.ntmps) && fn.results.isEmpty && !(fn.name == "runtime.NumGoroutine") then
          (evalItems { cx with n := fn.ntmps, full := 2 ^ fn.ntmps - 1, pan := false } ops.toList 0 (plainItems ops.toList).tail []
            (putSlot (caps ++ List.replicate (fn.ntmps - caps.length) (.tuple [])) o.dst (pv.getD .niliface)) h
            (fun ρ' h' => evalCode { cx with n := fn.ntmps, full := 2 ^ fn.ntmps - 1, pan := false } c 0 ρ' h' (packN 0) (packE 0)) (fun _ _ => none)).bind
            fun r => r.1.endH (trunc h.length r.2.2)
        else none
      | [] => none
    | _ => none
  | none => none

/-- What stands behind the 'defer'. -/
def evalRest (cx : Cx) (b : Code) (L : Nat) (fv : AVal) (ρ : List AVal) (h : Heap) : Option R :=
  bif okDst L b then (acallee fv).bind fun g =>
    (evalCode { cx with pan := true } b L ρ h (packN L) (packE L)).bind fun r =>
      r.1.endD ((evalRec cx g.1 (g.2.1 ++ g.2.2) none r.2.2).map fun h2 => (.ret, r.2.1, h2)) fun v => (evalRec cx g.1 (g.2.1 ++ g.2.2) (some v) r.2.2).map fun h2 => (.ret, pack L ρ, h2)
  else none

/-- Code ahead of the 'defer' goes on, or returns. -/
def Ex.onlyRet (e : Ex) (x : Option R) : Option R :=
  match e with
  | .ret => x
  | _ => none
def packD (L : Nat) (e : Ex) (ρ : List AVal) (h : Heap) : Option R := e.onlyRet (some (.ret, pack L ρ, h))

def evalPre (cx : Cx) : Code → Nat → List AVal → Heap → Option R
  | .seq (.region id ops false) b, L, ρ, h => match lastDefer ops.toList with
    | some f => evalItems cx ops.toList 0 (plainItems ops.toList).dropLast [] ρ h (fun ρ' h' => evalRest cx b L (aval cx.A ρ' f) ρ' h') (fun _ _ => none)
    | none => evalCode cx (.region id ops false) (L ||| ue cx.full b) ρ h (fun ρ' h' => evalPre cx b L ρ' h') (packD L)
  | .seq a b, L, ρ, h => evalCode cx a (L ||| ue cx.full b) ρ h (fun ρ' h' => evalPre cx b L ρ' h') (packD L)
  | _, _, _, _ => none

def evalBody (cx : Cx) (d : Bool) (c : Code) (L : Nat) (ρ : List AVal) (h : Heap) : Option R :=
  match d with
  | true => evalPre { cx with pan := false } c L ρ h
  | false => evalCode cx c L ρ h (packN L) (packE L)

def evalFn (P : Program) (A : Ann) (K : CallO) (lp : (List AVal × Heap → Option R) → List AVal × Heap → Option R) (f : Nat) (fn : Func) (c : Code) (args : List AVal) (h : Heap) : Option (Res × Heap) :=
  (evalBody { P, A, K, lp, n := fn.ntmps, full := 2 ^ fn.ntmps - 1, pan := A.pan f, vec := A.vecs f, frz := A.frz f, vlit := A.vlits f, vmk := A.vmk f, jt := A.jt f, lkp := A.lkp f, rb := A.rb f, frl := A.frl f, tb := A.tb f, ck := A.ck f } (A.dfr f) c (resBits fn)
      (args ++ List.replicate (fn.ntmps - args.length) (.tuple [])) h).bind
    fun r => endFn P A f fn h.length r.1 (unpack fn.ntmps (resBits fn) r.2.1) r.2.2

/-- A function that ranges over functions. -/
def evalFnG (P : Program) (A : Ann) (K : CallO) (lp : (List AVal × Heap → Option R) → List AVal × Heap → Option R) (f : Nat) (fn : Func) (c : Code) (args : List AVal) (h : Heap) : Option (Res × Heap) :=
  bif A.pan f then none else
  (evalRg { P, A, K, lp, n := fn.ntmps, full := 2 ^ fn.ntmps - 1, pan := false, vec := A.vecs f, frz := A.frz f, vlit := A.vlits f, vmk := A.vmk f, jt := A.jt f, lkp := A.lkp f, rb := A.rb f, frl := A.frl f, tb := A.tb f, ck := A.ck f } c (resBits fn)
      (args ++ List.replicate (fn.ntmps - args.length) (.tuple [])) h (packN (resBits fn)) (packE (resBits fn))).bind
    fun r => endFn P A f fn h.length r.1 (unpack fn.ntmps (resBits fn) r.2.1) r.2.2

def loopN : Nat → (List AVal × Heap → Option R) → List AVal × Heap → Option R
  | 0, _, _ => none
  | n + 1, F, s => (F s).bind fun r => r.1.thenDo (loopN n F r.2) fun e => some (e, r.2)

/-- What a function that is run on its arguments alone leaves: nothing, or blocks of its own. -/
def pureBack (out : Bool) (h : Heap) (r : Res × Heap) : Option (Res × Heap) := match r.2 with
  | [] => some (r.1, h)
  | _ => bif out && (r.2.all (ABlk.ok fun j => decide (j < r.2.length)) && r.1.ok fun j => decide (j < r.2.length)) then some (r.1.ren fun j => h.length + j, h ++ r.2.map (ABlk.ren fun j => h.length + j)) else none
/-- A function that is run on its arguments alone. -/
def callP (A : Ann) (K : CallO) : CallO := fun f args h =>
  bif A.pure f then (bif args.all (AVal.shut1 0) then (K f args []).bind (pureBack (A.out f) h) else none) else bif A.sub f then subC K f args h else K f args h

abbrev LpT := (List AVal × Heap → Option R) → List AVal × Heap → Option R

def evB (P : Program) (A : Ann) (lp : LpT) (K : CallO) (f : Nat) (args : List AVal) (h : Heap) : Option (Res × Heap) :=
  bif A.srt f then sortC args h else
  match A.prm f with
  | some k => primC A.bld k args h
  | none => match A.srf f with
  | some g => sortF g args h
  | none => match P.funcs[f]? with
    | some fn => match fn.body with
      | some c => bif decide (args.length ≤ fn.ntmps) && !(fn.name == "runtime.NumGoroutine") then (bif A.rgf f then evalFnG P A (callP A K) lp f fn c args h else evalFn P A (callP A K) lp f fn c args h) else none
      | none => none
    | none => none

def evF (P : Program) (A : Ann) (lp : LpT) : Nat → CallO
  | 0, _, _, _ => none
  | n + 1, f, args, h => evB P A lp (evF P A lp n) f args h

end
end
section
open Go Go.RowKit

/-- The ghost: persistent memory; where each abstract block lies; the slice that a token speaks of. -/
structure Gh where
  H : Nat → Nat → Option Value
  blk : Nat → Nat
  cur : Nat → Value

inductive RelP (H : Nat → Nat → Option Value) : AVal → Value → Prop
  | junk (V : Value) : RelP H .junk V
  | bool (b : Bool) : RelP H (.bool b) (.bool b)
  | int (k : IntKind) (n : Int) : RelP H (.int k n) (.int k n)
  | str (s : List UInt8) : RelP H (.str s) (.string ⟨s.toArray⟩)
  | agg (cs : List AVal) (C : Array Value) (hl : cs.length = C.size) (h : ∀ (i : Nat) (v : AVal), cs[i]? = some v → RelP H v (C.getD i undef)) : RelP H (.agg cs) (.agg C)
  | tuple (cs : List AVal) (C : Array Value) (hl : cs.length = C.size) (h : ∀ (i : Nat) (v : AVal), cs[i]? = some v → RelP H v (C.getD i undef)) : RelP H (.tuple cs) (.tuple C)
  | slice0 (a : Option Addr) (cap : Nat) : RelP H (.slice [] .no) (.slice a 0 cap)
  | slice (rows : List (List AVal)) (b off cap sz : Nat) (V : Nat → Value) (hr : ∀ r ∈ rows, r.length = sz) (hc : rows.length ≤ cap)
      (hH : ∀ (i j : Nat) (row : List AVal) (v : AVal), rows[i]? = some row → row[j]? = some v → H b (off + (i * sz + j)) = some (V (i * sz + j)))
      (hk : ∀ (i j : Nat) (row : List AVal) (v : AVal), rows[i]? = some row → row[j]? = some v → v.cellOk = true)
      (hV : ∀ (i j : Nat) (row : List AVal) (v : AVal), rows[i]? = some row → row[j]? = some v → RelP H v (V (i * sz + j))) :
      RelP H (.slice rows .no) (.slice (some ⟨b, off, none⟩) rows.length cap)
  | pptr (cs : List AVal) (b off : Nat) (V : Nat → Value)
      (hH : ∀ (j : Nat) v, cs[j]? = some v → H b (off + j) = some (V j))
      (hk : ∀ (j : Nat) (v : AVal), cs[j]? = some v → v.cellOk = true)
      (hV : ∀ (j : Nat) v, cs[j]? = some v → RelP H v (V j)) : RelP H (.pptr cs) (.pointer (some ⟨b, off, none⟩))
  | nilptr : RelP H .nilptr (.pointer none)
  | nilmap : RelP H .nilmap (.map none)
  | nilfunc : RelP H .nilfunc .nilFunc
  | niliface : RelP H .niliface .nilIface
  | func (f : Nat) : RelP H (.func f [] []) (.func (.func f) #[] #[])
  | iface (t : Nat) (v : AVal) (V : Value) (h : RelP H v V) : RelP H (.iface t v) (.iface t V)

theorem RelP.mono {H H' : Nat → Nat → Option Value} (hh : ∀ b k v, H b k = some v → H' b k = some v) {v : AVal} {V : Value} (h : RelP H v V) : RelP H' v V := by
  induction h with
  | junk V => exact .junk V
  | bool b => exact .bool b
  | int k n => exact .int k n
  | str s => exact .str s
  | agg cs C hl _ ih => exact .agg cs C hl ih
  | tuple cs C hl _ ih => exact .tuple cs C hl ih
  | slice0 a cap => exact .slice0 a cap
  | slice rows b off cap sz V hr hc hH hk _ ih => exact .slice rows b off cap sz V hr hc (fun i j row v h1 h2 => hh _ _ _ (hH i j row v h1 h2)) hk ih
  | pptr cs b off V hH hk _ ih => exact .pptr cs b off V (fun j v h1 => hh _ _ _ (hH j v h1)) hk ih
  | nilptr => exact .nilptr
  | nilmap => exact .nilmap
  | nilfunc => exact .nilfunc
  | niliface => exact .niliface
  | func f => exact .func f
  | iface t v V _ ih => exact .iface t v V ih

def live (h : Heap) (id : Nat) : Prop := ∃ b, h[id]? = some b ∧ b ≠ .free
/-- A block that is no token's. -/
def noFront (h : Heap) (id : Nat) : Prop := ∃ b, h[id]? = some b ∧ b ≠ .free ∧ ∀ n sz t, b ≠ .front n sz t
def vlen : Value → Nat
  | .slice _ n _ => n
  | _ => 0

inductive RelV (G : Gh) (h : Heap) : AVal → Value → Prop
  | p (v : AVal) (V : Value) (hp : RelP G.H v V) : RelV G h v V
  | agg (cs : List AVal) (C : Array Value) (hl : cs.length = C.size) (hh : ∀ (i : Nat) (v : AVal), cs[i]? = some v → RelV G h v (C.getD i undef)) : RelV G h (.agg cs) (.agg C)
  | tuple (cs : List AVal) (C : Array Value) (hl : cs.length = C.size) (hh : ∀ (i : Nat) (v : AVal), cs[i]? = some v → RelV G h v (C.getD i undef)) : RelV G h (.tuple cs) (.tuple C)
  | nil : RelV G h (.slice [] .nil) (.slice none 0 0)
  | own (rows : List (List AVal)) (id n sz : Nat) (V : Value) (hp : RelP G.H (.slice rows .no) V) {t : Nat} (hf : h[id]? = some (.front n sz t)) (hn : rows.length ≤ n) (hr : ∀ r ∈ rows, r.length = sz) (hc : rows.length = n → V = G.cur id) : RelV G h (.slice rows (.own id)) V
  | ownv {rows : List (List AVal)} (id : Nat) (V : Value) (hp : RelP G.H (.slice rows .no) V) (hb : noFront h id) : RelV G h (.slice rows (.own id)) V
  | vslice (id tot off len sz b cap : Nat) (hl : noFront h id) (ht : tot ≤ vlen (G.cur id)) (hc : len ≤ cap)
      (hv : tot = vlen (G.cur id) → ∃ l cap0, G.cur id = .slice (some ⟨b, 0, none⟩) tot cap0 ∧ off = l * sz ∧ l + len ≤ tot ∧ cap = cap0 - l) : RelV G h (.vslice id tot off len sz) (.slice (some ⟨b, off, none⟩) len cap)
  | vptr (id tot off b : Nat) (hl : noFront h id) (ht : tot ≤ vlen (G.cur id)) (hv : tot = vlen (G.cur id) → ∃ cap0, G.cur id = .slice (some ⟨b, 0, none⟩) tot cap0) : RelV G h (.vptr id tot off) (.pointer (some ⟨b, off, none⟩))
  | ptr (id off : Nat) (hl : live h id) : RelV G h (.ptr id off) (.pointer (some ⟨G.blk id, off, none⟩))
  | mslice (id off len sz cap : Nat) (hl : live h id) (hc : len ≤ cap) : RelV G h (.mslice id off len sz) (.slice (some ⟨G.blk id, off, none⟩) len cap)
  | mslice0 (id off sz cap : Nat) (a : Option Addr) : RelV G h (.mslice id off 0 sz) (.slice a 0 cap)
  | map (id : Nat) (hl : live h id) : RelV G h (.map id) (.map (some (G.blk id)))
  | func (f : Nat) (first cap : List AVal) (F C : Array Value) (hlf : first.length = F.size) (hlc : cap.length = C.size)
      (hf : ∀ (i : Nat) (v : AVal), first[i]? = some v → RelV G h v (F.getD i undef)) (hc : ∀ (i : Nat) (v : AVal), cap[i]? = some v → RelV G h v (C.getD i undef)) : RelV G h (.func f first cap) (.func (.func f) F C)
  | iface (t : Nat) (v : AVal) (V : Value) (hh : RelV G h v V) : RelV G h (.iface t v) (.iface t V)

def owner (G : Gh) (h : Heap) (id : Nat) : Option Nat :=
  match h[id]? with
  | some (.cells _) | some (.map _) | some (.tcells _ _) => some (G.blk id)
  | some (.front _ _ _) | some (.vec _ _ _) => (G.cur id).ownBlock
  | _ => none

def BlkOk (G : Gh) (h : Heap) (w : World) (id : Nat) : ABlk → Prop
  | .free => True
  | .gone => True
  | .cells cs => ∃ C e, w.heap[G.blk id]? = some (.cells C e (0, 0)) ∧ C.size = cs.length ∧ (∀ k, G.H (G.blk id) k = none) ∧
      ∀ (i : Nat) (v : AVal), cs[i]? = some v → v.cellOk = true ∧ RelV G h v (C.getD i undef)
  | .tcells e cs => ∃ C, w.heap[G.blk id]? = some (.cells C e (0, 0)) ∧ C.size = cs.length ∧ (∀ k, G.H (G.blk id) k = none) ∧
      ∀ (i : Nat) (v : AVal), cs[i]? = some v → v.cellOk = true ∧ RelV G h v (C.getD i undef)
  | .front n sz t => (n = 0 ∧ G.cur id = .slice none 0 0) ∨ ∃ b cap C e, G.cur id = .slice (some ⟨b, 0, none⟩) n cap ∧ w.heap[b]? = some (.cells C e (0, 0)) ∧
      n ≤ cap ∧ cap ≤ maxLen ∧ C.size = cap * sz ∧ 0 < sz ∧ (∀ k, n * sz ≤ k → G.H b k = none) ∧ (t ≠ 0 → e + 1 = t)
  | .vec tot sz cs => ∃ b cap C e, G.cur id = .slice (some ⟨b, 0, none⟩) tot cap ∧ w.heap[b]? = some (.cells C e (0, 0)) ∧ tot ≤ cap ∧ cap ≤ maxLen ∧ C.size = cap * sz ∧ 0 < sz ∧ cs.length = tot * sz ∧ (∀ k, G.H b k = none) ∧
      ∀ (i : Nat) (v : AVal), cs[i]? = some v → v.cellOk = true ∧ RelV G h v (C.getD i undef)
  | .map es => ∃ E clock, w.heap[G.blk id]? = some (.map E clock) ∧ E.size = es.length ∧ (∀ k, G.H (G.blk id) k = none) ∧
      (∀ (i : Nat) (kv : AVal × AVal), es[i]? = some kv → ∃ m, E[i]? = some m ∧ akeyOk kv.1 = true ∧ RelP G.H kv.1 m.key ∧ RelV G h kv.2 m.val) ∧ MapKept.Stamped E clock

structure Inv (G : Gh) (h : Heap) (w : World) : Prop where
  ok : ∀ b k v, G.H b k = some v → w.cell? ⟨b, k, none⟩ = some v
  blk : ∀ id bl, h[id]? = some bl → BlkOk G h w id bl
  inj : ∀ i j b, owner G h i = some b → owner G h j = some b → i = j

/-- What may become of a block. -/
def Kind (G G' : Gh) (id : Nat) : ABlk → ABlk → Prop
  | .free, _ => True
  | .gone, .gone => G'.blk id = G.blk id ∧ G'.cur id = G.cur id
  | .cells a, .cells b => a.length = b.length ∧ G'.blk id = G.blk id ∧ G'.cur id = G.cur id
  | .map _, .map _ => G'.blk id = G.blk id ∧ G'.cur id = G.cur id
  | .tcells t a, .tcells t' b => t' = t ∧ a.length = b.length ∧ G'.blk id = G.blk id ∧ G'.cur id = G.cur id
  | .front n sz _, .front n' sz' _ => n ≤ n' ∧ (n = n' → G'.cur id = G.cur id) ∧ G'.blk id = G.blk id ∧ (0 < n → sz' = sz)
  | .front n _ _, .vec _ _ _ => n = 0 ∧ G'.blk id = G.blk id
  | .front _ _ _, .gone => G'.blk id = G.blk id
  | .vec _ _ _, .vec _ _ _ => G'.blk id = G.blk id ∧ vlen (G.cur id) ≤ vlen (G'.cur id) ∧ (vlen (G.cur id) = vlen (G'.cur id) → G'.cur id = G.cur id)
  | .vec _ _ _, .gone => G'.blk id = G.blk id ∧ vlen (G.cur id) ≤ vlen (G'.cur id) ∧ (vlen (G.cur id) = vlen (G'.cur id) → G'.cur id = G.cur id)
  | _, _ => False

structure Ext (G : Gh) (h : Heap) (w : World) (G' : Gh) (h' : Heap) (w' : World) : Prop where
  os : w'.os = w.os
  tape : w'.tape = w.tape
  output : w'.output = w.output
  size : w.heap.size ≤ w'.heap.size
  frame : ∀ b, b < w.heap.size → (∀ id, owner G h id ≠ some b) → w'.heap[b]? = w.heap[b]? ∧ ∀ k, G'.H b k = G.H b k
  hmono : ∀ b k v, G.H b k = some v → G'.H b k = some v
  own : ∀ id b, owner G' h' id = some b → b < w.heap.size → owner G h id = some b
  kinds : ∀ id bl, h[id]? = some bl → ∃ bl', h'[id]? = some bl' ∧ Kind G G' id bl bl'

theorem Kind.refl (G : Gh) (id : Nat) (b : ABlk) : Kind G G id b b := by cases b <;> simp [Kind]
theorem Kind.trans {G G' G'' : Gh} {id : Nat} {a b c : ABlk} (h : Kind G G' id a b) (h' : Kind G' G'' id b c) : Kind G G'' id a c := by
  cases a <;> cases b <;> cases c <;> simp only [Kind] at h h' ⊢ <;> first
    | exact h.elim
    | exact h'.elim
    | trivial
    | exact ⟨h'.1.trans h.1, h'.2.trans h.2⟩
    | exact ⟨h.1.trans h'.1, h'.2.1.trans h.2.1, h'.2.2.trans h.2.2⟩
    | exact ⟨by omega, by omega, h'.2.2.1.trans h.2.2.1, fun e => by rw [h'.2.2.2 (by omega), h.2.2.2 e]⟩
    | exact ⟨by omega, fun e => by rw [h'.2.1 (by omega), h.2.1 (by omega)], h'.2.2.1.trans h.2.2.1, fun e => by rw [h'.2.2.2 (by omega), h.2.2.2 e]⟩
    | exact ⟨h'.1.trans h.1, by omega, fun e => by rw [h'.2.2 (by omega), h.2.2 (by omega)]⟩
    | exact ⟨h'.1.trans h.1, by have := h'.2; rw [h'.2]; exact h.2.1, fun e => by rw [h'.2] at e ⊢; exact h.2.2 e⟩
    | exact ⟨h.1, h'.1.trans h.2⟩
    | exact ⟨by omega, h'.2.trans h.2.2.1⟩
    | exact h'.trans h.2.2.1
    | exact h'.1.trans h
    | exact h'.1.trans h.2
    | exact ⟨h'.1.trans h.1, h.2.1.trans h'.2.1, h'.2.2.1.trans h.2.2.1, h'.2.2.2.trans h.2.2.2⟩
    | skip

theorem Ext.refl (G : Gh) (h : Heap) (w : World) : Ext G h w G h w :=
  ⟨rfl, rfl, rfl, Nat.le_refl _, fun _ _ _ => ⟨rfl, fun _ => rfl⟩, fun _ _ _ h => h, fun _ _ h _ => h, fun id bl hb => ⟨bl, hb, Kind.refl G id bl⟩⟩

theorem Ext.trans {G G' G'' : Gh} {h h' h'' : Heap} {w w' w'' : World} (a : Ext G h w G' h' w') (b : Ext G' h' w' G'' h'' w'') : Ext G h w G'' h'' w'' where
  os := b.os.trans a.os
  tape := b.tape.trans a.tape
  output := b.output.trans a.output
  size := Nat.le_trans a.size b.size
  frame := fun c hc hn => by
    obtain ⟨h1, h2⟩ := a.frame c hc hn
    obtain ⟨h3, h4⟩ := b.frame c (Nat.lt_of_lt_of_le hc a.size) (fun id ho => hn id (a.own id c ho hc))
    exact ⟨h3.trans h1, fun k => (h4 k).trans (h2 k)⟩
  hmono := fun c k v hv => b.hmono c k v (a.hmono c k v hv)
  own := fun id c ho hc => a.own id c (b.own id c ho (Nat.lt_of_lt_of_le hc a.size)) hc
  kinds := fun id bl hb => by
    obtain ⟨b1, h1, k1⟩ := a.kinds id bl hb
    obtain ⟨b2, h2, k2⟩ := b.kinds id b1 h1
    exact ⟨b2, h2, k1.trans k2⟩

/-- What the relation of a value needs of two heaps. -/
structure Mono (G : Gh) (h : Heap) (G' : Gh) (h' : Heap) : Prop where
  hmono : ∀ b k v, G.H b k = some v → G'.H b k = some v
  kinds : ∀ id bl, h[id]? = some bl → ∃ bl', h'[id]? = some bl' ∧ Kind G G' id bl bl'

theorem Ext.toMono {G G' : Gh} {h h' : Heap} {w w' : World} (a : Ext G h w G' h' w') : Mono G h G' h' := ⟨a.hmono, a.kinds⟩

theorem Kind.blk {G G' : Gh} {id : Nat} {a b : ABlk} (h : Kind G G' id a b) (ha : a ≠ .free) : b ≠ .free ∧ G'.blk id = G.blk id := by
  cases a <;> cases b <;> simp_all [Kind]
theorem Kind.nf {G G' : Gh} {id : Nat} {a b : ABlk} (h : Kind G G' id a b) (ha : a ≠ .free) (hn : ∀ n sz t, a ≠ .front n sz t) : ∀ n sz t, b ≠ .front n sz t := by
  cases a <;> cases b <;> simp_all [Kind]
theorem Kind.cur {G G' : Gh} {id : Nat} {a b : ABlk} (h : Kind G G' id a b) (ha : a ≠ .free) (hn : ∀ n sz t, a ≠ .front n sz t) : vlen (G.cur id) ≤ vlen (G'.cur id) ∧ (vlen (G.cur id) = vlen (G'.cur id) → G'.cur id = G.cur id) := by
  cases a <;> cases b <;> simp_all [Kind]
theorem Mono.live {G G' : Gh} {h h' : Heap} (m : Mono G h G' h') {id : Nat} (hl : live h id) : live h' id ∧ G'.blk id = G.blk id := by
  obtain ⟨bl, h1, h2⟩ := hl
  obtain ⟨bl', h3, h4⟩ := m.kinds id bl h1
  exact ⟨⟨bl', h3, (h4.blk h2).1⟩, (h4.blk h2).2⟩
theorem Mono.nf {G G' : Gh} {h h' : Heap} (m : Mono G h G' h') {id : Nat} (hl : noFront h id) : noFront h' id ∧ vlen (G.cur id) ≤ vlen (G'.cur id) ∧ (vlen (G.cur id) = vlen (G'.cur id) → G'.cur id = G.cur id) := by
  obtain ⟨bl, h1, h2, h3⟩ := hl
  obtain ⟨bl', h4, h5⟩ := m.kinds id bl h1
  exact ⟨⟨bl', h4, (h5.blk h2).1, h5.nf h2 h3⟩, h5.cur h2 h3⟩

theorem RelV.mono {G G' : Gh} {h h' : Heap} (m : Mono G h G' h') {v : AVal} {V : Value} (r : RelV G h v V) : RelV G' h' v V := by
  induction r with
  | p v V hp => exact .p v V (hp.mono m.hmono)
  | agg cs C hl _ ih => exact .agg cs C hl ih
  | tuple cs C hl _ ih => exact .tuple cs C hl ih
  | nil => exact .nil
  | own rows id n sz V hp hf hn hr hc =>
    obtain ⟨bl', h3, h4⟩ := m.kinds id _ hf
    cases bl' with
    | front n' sz' t' =>
      obtain ⟨h6, h7, _, h8⟩ := h4
      exact .own rows id n' sz' V (hp.mono m.hmono) h3 (by omega) (fun r hm => by rw [h8 (by have := List.length_pos_of_mem hm; omega)]; exact hr r hm)
        (fun e => by rw [h7 (by omega)]; exact hc (by omega))
    | vec tot sz' cs =>
      obtain rfl : rows = [] := List.eq_nil_of_length_eq_zero (by have := h4.1; omega)
      exact .ownv id V (hp.mono m.hmono) ⟨_, h3, by simp, by simp⟩
    | gone =>
      exact .ownv id V (hp.mono m.hmono) ⟨_, h3, by simp, by simp⟩
    | _ => exact h4.elim
  | ownv id V hp hb => exact .ownv id V (hp.mono m.hmono) (m.nf hb).1
  | vslice id tot off len sz b cap hl ht hc hv =>
    obtain ⟨h1, h2, h3⟩ := m.nf hl
    exact .vslice id tot off len sz b cap h1 (by omega) hc fun e => by rw [h3 (by omega)]; exact hv (by omega)
  | vptr id tot off b hl ht hv =>
    obtain ⟨h1, h2, h3⟩ := m.nf hl
    exact .vptr id tot off b h1 (by omega) fun e => by rw [h3 (by omega)]; exact hv (by omega)
  | ptr id off hl => obtain ⟨h1, h2⟩ := m.live hl; rw [← h2]; exact .ptr id off h1
  | mslice id off len sz cap hl hc => obtain ⟨h1, h2⟩ := m.live hl; rw [← h2]; exact .mslice id off len sz cap h1 hc
  | mslice0 id off sz cap a => exact .mslice0 id off sz cap a
  | map id hl => obtain ⟨h1, h2⟩ := m.live hl; rw [← h2]; exact .map id h1
  | func f first cap F C hlf hlc _ _ ihf ihc => exact .func f first cap F C hlf hlc ihf ihc
  | iface t v V _ ih => exact .iface t v V ih
end
section
open Go Go.RowKit

section inv
variable {G : Gh} {h : Heap} {V : Value}

theorem RelV.int_inv {k : IntKind} {n : Int} (r : RelV G h (.int k n) V) : V = .int k n := by
  cases r with | p _ _ hp => cases hp; rfl
theorem RelV.bool_inv {b : Bool} (r : RelV G h (.bool b) V) : V = .bool b := by
  cases r with | p _ _ hp => cases hp; rfl
theorem RelV.str_inv {s : List UInt8} (r : RelV G h (.str s) V) : V = .string ⟨s.toArray⟩ := by
  cases r with | p _ _ hp => cases hp; rfl
theorem RelV.slice_inv {rows : List (List AVal)} {t : Tok} (r : RelV G h (.slice rows t) V) : RelP G.H (.slice rows .no) V := by
  cases r with
  | p _ _ hp =>
    cases hp with
    | slice0 a cap => exact .slice0 a cap
    | slice rows b off cap sz V hr hc hH hk hV => exact .slice rows b off cap sz V hr hc hH hk hV
  | nil => exact .slice0 none 0
  | own rows id n sz V hp hf hn hr hc => exact hp
  | ownv id V hp hb => exact hp
theorem RelV.vslice_inv {id tot off len sz : Nat} (r : RelV G h (.vslice id tot off len sz) V) : ∃ b cap, V = .slice (some ⟨b, off, none⟩) len cap ∧ noFront h id ∧ tot ≤ vlen (G.cur id) ∧ len ≤ cap ∧
      (tot = vlen (G.cur id) → ∃ l cap0, G.cur id = .slice (some ⟨b, 0, none⟩) tot cap0 ∧ off = l * sz ∧ l + len ≤ tot ∧ cap = cap0 - l) := by
  cases r with
  | p _ _ hp => cases hp
  | vslice _ _ _ _ _ b cap hl ht hc hv => exact ⟨b, cap, rfl, hl, ht, hc, hv⟩
theorem RelV.vptr_inv {id tot off : Nat} (r : RelV G h (.vptr id tot off) V) : ∃ b, V = .pointer (some ⟨b, off, none⟩) ∧ noFront h id ∧ tot ≤ vlen (G.cur id) ∧ (tot = vlen (G.cur id) → ∃ cap0, G.cur id = .slice (some ⟨b, 0, none⟩) tot cap0) := by
  cases r with
  | p _ _ hp => cases hp
  | vptr _ _ _ b hl ht hv => exact ⟨b, rfl, hl, ht, hv⟩
theorem RelV.agg_inv {cs : List AVal} (r : RelV G h (.agg cs) V) : ∃ C : Array Value, V = .agg C ∧ cs.length = C.size ∧ ∀ (i : Nat) (v : AVal), cs[i]? = some v → RelV G h v (C.getD i undef) := by
  cases r with
  | p _ _ hp => cases hp with | agg cs C hl hh => exact ⟨C, rfl, hl, fun i v hv => .p _ _ (hh i v hv)⟩
  | agg cs C hl hh => exact ⟨C, rfl, hl, hh⟩
theorem RelV.tuple_inv {cs : List AVal} (r : RelV G h (.tuple cs) V) : ∃ C : Array Value, V = .tuple C ∧ cs.length = C.size ∧ ∀ (i : Nat) (v : AVal), cs[i]? = some v → RelV G h v (C.getD i undef) := by
  cases r with
  | p _ _ hp => cases hp with | tuple cs C hl hh => exact ⟨C, rfl, hl, fun i v hv => .p _ _ (hh i v hv)⟩
  | tuple cs C hl hh => exact ⟨C, rfl, hl, hh⟩
theorem RelV.tuple0_inv (r : RelV G h (.tuple []) V) : V = undef := by
  obtain ⟨C, rfl, hl, _⟩ := r.tuple_inv
  have : C = #[] := Array.eq_empty_of_size_eq_zero hl.symm
  subst this; rfl
theorem RelV.undef : RelV G h (.tuple []) Go.undef := .p _ _ (.tuple [] #[] rfl (by simp))
theorem RelV.ptr_inv {id off : Nat} (r : RelV G h (.ptr id off) V) : V = .pointer (some ⟨G.blk id, off, none⟩) ∧ live h id := by
  cases r with
  | p _ _ hp => cases hp
  | ptr id off hl => exact ⟨rfl, hl⟩
theorem RelV.map_inv {id : Nat} (r : RelV G h (.map id) V) : V = .map (some (G.blk id)) ∧ live h id := by
  cases r with
  | p _ _ hp => cases hp
  | map id hl => exact ⟨rfl, hl⟩
theorem RelV.nilmap_inv (r : RelV G h .nilmap V) : V = .map none := by
  cases r with | p _ _ hp => cases hp; rfl
theorem RelV.nilptr_inv (r : RelV G h .nilptr V) : V = .pointer none := by
  cases r with | p _ _ hp => cases hp; rfl
theorem RelV.pptr_inv {cs : List AVal} (r : RelV G h (.pptr cs) V) : RelP G.H (.pptr cs) V := by
  cases r with | p _ _ hp => exact hp
theorem RelV.mslice_inv {id off len sz : Nat} (r : RelV G h (.mslice id off len sz) V) :
    ∃ a cap, V = .slice a len cap ∧ len ≤ cap ∧ (0 < len → a = some ⟨G.blk id, off, none⟩ ∧ live h id) := by
  cases r with
  | p _ _ hp => cases hp
  | mslice id off len sz cap hl hc => exact ⟨_, cap, rfl, hc, fun _ => ⟨rfl, hl⟩⟩
  | mslice0 id off sz cap a => exact ⟨a, cap, rfl, Nat.zero_le _, fun hh => absurd hh (by omega)⟩
theorem RelV.func_inv {f : Nat} {first cap : List AVal} (r : RelV G h (.func f first cap) V) :
    ∃ F C : Array Value, V = .func (.func f) F C ∧ first.length = F.size ∧ cap.length = C.size ∧
      (∀ (i : Nat) (v : AVal), first[i]? = some v → RelV G h v (F.getD i Go.undef)) ∧ (∀ (i : Nat) (v : AVal), cap[i]? = some v → RelV G h v (C.getD i Go.undef)) := by
  cases r with
  | p _ _ hp => cases hp with | func f => exact ⟨#[], #[], rfl, rfl, rfl, by simp, by simp⟩
  | func f first cap F C hlf hlc hf hc => exact ⟨F, C, rfl, hlf, hlc, hf, hc⟩
theorem RelV.iface_inv {t : Nat} {v : AVal} (r : RelV G h (.iface t v) V) : ∃ W, V = .iface t W ∧ RelV G h v W := by
  cases r with
  | p _ _ hp => cases hp with | iface t v V hh => exact ⟨_, rfl, .p _ _ hh⟩
  | iface t v V hh => exact ⟨_, rfl, hh⟩

/-- A value that may be a cell is one cell. -/
theorem RelV.oneCell {v : AVal} (r : RelV G h v V) (hk : v.cellOk = true) : V.oneCell' = true ∧ V.cells = #[V] := by
  cases r with
  | p _ _ hp => cases hp <;> simp_all [AVal.cellOk, Value.oneCell', Value.cells]
  | own _ _ _ _ _ hp => cases hp <;> simp [Value.oneCell', Value.cells]
  | ownv _ _ hp => cases hp <;> simp [Value.oneCell', Value.cells]
  | _ => simp_all [AVal.cellOk, Value.oneCell', Value.cells]
theorem RelP.oneCell {H : Nat → Nat → Option Value} {v : AVal} (r : RelP H v V) (hk : v.cellOk = true) : V.oneCell' = true ∧ V.cells = #[V] := by
  cases r <;> simp_all [AVal.cellOk, Value.oneCell', Value.cells]
end inv

/-- The constants. -/
theorem relV_ofConst1 (G : Gh) (h : Heap) (v : Value) : RelV G h (ofConst1 v) v := by
  unfold ofConst1
  split
  · exact .p _ _ (.bool _)
  · exact .p _ _ (.int _ _)
  · rename_i s
    have : (⟨s.data.toList.toArray⟩ : ByteArray) = s := by cases s; simp
    have r := RelV.p (G := G) (h := h) _ _ (RelP.str (H := G.H) s.data.toList)
    rw [this] at r; exact r
  · exact .p _ _ .nilptr
  · exact .nil
  · exact .p _ _ .nilmap
  · exact .p _ _ .nilfunc
  · exact .p _ _ .niliface
  · exact .p _ _ (.junk _)
theorem relV_ofConst (G : Gh) (h : Heap) (v : Value) : RelV G h (ofConst v) v := by
  unfold ofConst
  split
  · rename_i cs
    refine .agg _ _ (by simp) fun i u hu => ?_
    simp only [List.getElem?_map, Option.map_eq_some_iff, Array.getElem?_toList] at hu
    obtain ⟨x, hx, rfl⟩ := hu
    have : cs.getD i undef = x := by rw [Array.getD_eq_getD_getElem?, hx]; rfl
    rw [this]
    exact relV_ofConst1 G h x
  · rename_i cs
    split
    · rename_i hn
      have : cs = #[] := by cases cs; simp_all
      subst this
      exact .p _ _ (.tuple [] #[] rfl (by simp))
    · exact .p _ _ (.junk _)
  · exact relV_ofConst1 G h v

def GlobH (A : Ann) (H : Nat → Nat → Option Value) : Prop := ∀ g cs, A.glob g = some cs → RelP H (.pptr cs) (.pointer (some ⟨g, 0, none⟩))
theorem GlobH.mono {A : Ann} {H H' : Nat → Nat → Option Value} (hh : ∀ b k v, H b k = some v → H' b k = some v) (g : GlobH A H) : GlobH A H' := fun i cs hc => (g i cs hc).mono hh
/-- Read-only tables: their cells, and how many there are. -/
structure GlobOk (A : Ann) (G : Gh) (h : Heap) (w : World) : Prop where
  cells : GlobH A G.H
  size : ∀ g n, A.gsz g = some n → (∀ id, owner G h id ≠ some g) ∧ ∃ C e fr, w.heap[g]? = some (.cells C e fr) ∧ C.size = n
theorem GlobOk.mono {A : Ann} {G G' : Gh} {h h' : Heap} {w w' : World} (gl : GlobOk A G h w) (x : Ext G h w G' h' w') : GlobOk A G' h' w' :=
  ⟨gl.cells.mono x.hmono, fun g n hg => by
    obtain ⟨h1, C, e, fr, h2, h3⟩ := gl.size g n hg
    have hlt : g < w.heap.size := (Array.getElem?_eq_some_iff.1 h2).1
    exact ⟨fun id ho => h1 id (x.own id g ho hlt), C, e, fr, by rw [(x.frame g hlt h1).1]; exact h2, h3⟩⟩
theorem GlobOk.sub {A : Ann} {G G' : Gh} {h h' : Heap} {w : World} (gl : GlobOk A G h w) (hH : G'.H = G.H) (ho : ∀ id b, owner G' h' id = some b → ∃ id', owner G h id' = some b) : GlobOk A G' h' w :=
  ⟨by rw [hH]; exact gl.cells, fun g n hg => by
    obtain ⟨h1, h2⟩ := gl.size g n hg
    exact ⟨fun id hi => by obtain ⟨id', h3⟩ := ho id g hi; exact h1 id' h3, h2⟩⟩

/-- 'J': what a frame is known to be besides (which calls it has put off). -/
structure Slots (J : Act → Prop) (G : Gh) (h : Heap) (ρ : List AVal) (a : Act) : Prop where
  len : ρ.length = a.tmps.size
  rel : ∀ (i : Nat) (v : AVal), ρ[i]? = some v → RelV G h v (a.tmps.getD i undef)
  df : J a

theorem Slots.mono {J : Act → Prop} {G G' : Gh} {h h' : Heap} {ρ : List AVal} {a : Act} (s : Slots J G h ρ a) (m : Mono G h G' h') : Slots J G' h' ρ a :=
  ⟨s.len, fun i v hv => (s.rel i v hv).mono m, s.df⟩

theorem Slots.get {J : Act → Prop} {G : Gh} {h : Heap} {ρ : List AVal} {a : Act} (s : Slots J G h ρ a) (t : Nat) : RelV G h (ρ.getD t .junk) (a.tmps.getD t undef) := by
  rw [List.getD_eq_getElem?_getD]
  cases hv : ρ[t]? with
  | none => exact .p _ _ (.junk _)
  | some v => exact s.rel t v hv

theorem Slots.eval {J : Act → Prop} {A : Ann} {G : Gh} {h : Heap} {ρ : List AVal} {a : Act} (s : Slots J G h ρ a) (gl : GlobH A G.H) (x : Operand) : RelV G h (aval A ρ x) (a.eval x) := by
  cases x with
  | tmp t => exact s.get t
  | const v => exact relV_ofConst G h v
  | global g =>
    simp only [aval]
    cases hg : A.glob g with
    | none => exact .p _ _ (.junk _)
    | some cs => exact .p _ _ (gl g cs hg)
  | func f => exact .p _ _ (.func f)

theorem Slots.put {J : Act → Prop} {G : Gh} {h : Heap} {ρ : List AVal} {a : Act} (s : Slots J G h ρ a) (dst : Option Tmp) {v : AVal} {V : Value} (r : RelV G h v V) (hj : J (a.put dst V)) : Slots J G h (putSlot ρ dst v) (a.put dst V) := by
  cases dst with
  | none => exact s
  | some d =>
    refine ⟨by simp [putSlot, Act.put, s.len], fun i u hu => ?_, hj⟩
    simp only [putSlot, List.getElem?_set] at hu
    simp only [Act.put, Array.getD_eq_getD_getElem?, Array.getElem?_setIfInBounds]
    by_cases hdi : d = i
    · subst hdi
      have hlt : d < ρ.length := by
        by_cases hlt : d < ρ.length
        · exact hlt
        · simp [hlt] at hu
      simp only [hlt, if_true] at hu
      cases hu
      rw [s.len] at hlt
      simpa [hlt] using r
    · simp only [hdi, if_false] at hu ⊢
      simpa [Array.getD_eq_getD_getElem?] using s.rel i u hu

theorem agg_cells {G : Gh} {h : Heap} {v : AVal} {V : Value} (r : RelV G h v V) (hk : v.cells.all AVal.cellOk = true) :
    v.cells.length = V.cells.size ∧ ∀ (i : Nat) (u : AVal), v.cells[i]? = some u → u.cellOk = true ∧ RelV G h u (V.cells.getD i undef) := by
  by_cases ha : ∃ cs, v = .agg cs
  · obtain ⟨cs, rfl⟩ := ha
    obtain ⟨C, rfl, hl, hr⟩ := r.agg_inv
    simp only [AVal.cells, Value.cells] at *
    exact ⟨hl, fun i u hu => ⟨by simpa using List.all_eq_true.1 hk u (List.mem_of_getElem? hu), hr i u hu⟩⟩
  · have hc : v.cells = [v] := by cases v <;> simp_all [AVal.cells]
    rw [hc] at hk ⊢
    have hk' : v.cellOk = true := by simpa using hk
    obtain ⟨_, h2⟩ := r.oneCell hk'
    rw [h2]
    refine ⟨rfl, fun i u hu => ?_⟩
    cases i with
    | zero => simp at hu; subst hu; exact ⟨hk', by simpa using r⟩
    | succ i => simp at hu
end
section
open Go Go.RowKit

section
variable {P : Program} {G : Gh} {h : Heap} {w : World} {x y v : AVal} {X Y : Value}

theorem eqGuard_pure (op : BinOp) (t : TypeId) (xo yo : Operand) (X Y : Value) (hx : (∀ cs, X ≠ .agg cs) ∧ X ≠ .nilIface) : (eqGuard op t xo yo X Y).run P w = .ok () w := by
  obtain ⟨h1, h2⟩ := hx
  cases op <;> cases X <;> first
    | (exact absurd rfl (h1 _); done)
    | (exact absurd rfl h2; done)
    | (unfold eqGuard; simp [Sem.run_pure]; done)
    | (unfold eqGuard; simp [Sem.run_pure]; split <;> simp_all [Sem.run_pure]; done)

theorem run_sizeOf' {t : TypeId} {n : Nat} (hn : sizeT P t = some n) : (Go.sizeOf t).run P w = .ok n w := by
  unfold sizeT at hn
  cases hu : P.info? t with
  | none => simp [hu] at hn
  | some ti => simp [hu] at hn; simp [Go.sizeOf, Go.typeInfo, hu, hn]
theorem run_isAgg' {t : TypeId} {g : Bool} (hg : isAggT P t = some g) : (isAgg t).run P w = .ok g w := by
  unfold isAggT at hg
  cases hu : P.underlying t with
  | none => simp [hu] at hg
  | some d => cases d <;> simp_all [isAgg, run_underlying, Sem.run_pure]

theorem run_equalIn_bool {t : TypeId} (ht : P.underlying t = some .bool) (d : Nat) (a b : Bool) : (Op.equalIn (d + 1) t (.bool a) (.bool b)).run P w = .ok (a == b) w := by
  simp only [Op.equalIn, Sem.run_bind, run_underlying ht, Result.andThen_ok, Sem.run_pure]

theorem abin_sound {op : BinOp} (t : TypeId) (xo yo : Operand) (hb : abin op x y = some v) (hx : RelV G h x X) (hy : RelV G h y Y) :
    ∃ V, (do eqGuard op t xo yo X Y; binOp op t X Y : Sem Value).run P w = .ok V w ∧ RelV G h v V := by
  unfold abin at hb
  split at hb
  · rename_i k a k' b
    have := hx.int_inv; subst this
    have := hy.int_inv; subst this
    have hg := eqGuard_pure (P := P) (w := w) op t xo yo (.int k a) (.int k' b) (by simp)
    simp only [Sem.run_bind, hg, Result.andThen_ok]
    cases op <;> (try simp only at hb) <;> (try split at hb) <;> (try simp only [Option.some.injEq, reduceCtorEq] at hb)
    all_goals (try subst hb)
    all_goals (try (rename_i hk; simp only [ne_eq, Decidable.not_not] at hk; try subst hk))
    all_goals (try (split at hb))
    all_goals (try (cases hb; done))
    all_goals (try (simp only [Option.some.injEq] at hb; subst hb))
    all_goals refine ⟨_, ?_, .p _ _ (by first | exact .int _ _ | exact .bool _)⟩
    all_goals (try simp_all [binOp, Op.intArith, Op.intCmp, Op.intDiv, Op.intBits, Op.shift, Sem.run_pure])
    all_goals (intro hlt; omega)
  · rename_i a b
    have := hx.str_inv; subst this
    have := hy.str_inv; subst this
    have hg := eqGuard_pure (P := P) (w := w) op t xo yo (.string ⟨a.toArray⟩) (.string ⟨b.toArray⟩) (by simp)
    simp only [Sem.run_bind, hg, Result.andThen_ok]
    cases op <;> simp only [reduceCtorEq] at hb <;> (try split at hb) <;> simp only [Option.some.injEq, reduceCtorEq] at hb
    all_goals subst hb
    · rename_i hl
      refine ⟨.string (⟨a.toArray⟩ ++ ⟨b.toArray⟩), ?_, ?_⟩
      · show (Op.stringOp .add _ _).run P w = _
        refine run_string_add_sum _ _ _ ?_
        show a.toArray.size + b.toArray.size ≤ _
        simp only [List.size_toArray]; omega
      · have : (⟨a.toArray⟩ : ByteArray) ++ ⟨b.toArray⟩ = ⟨(a ++ b).toArray⟩ := by
          apply ByteArray.ext; simp
        rw [this]; exact .p _ _ (.str _)
    all_goals exact ⟨_, by simp [binOp, Op.stringOp, Sem.run_pure], .p _ _ (.bool _)⟩
  · cases hb

theorem abinB_sound {op : BinOp} {t : TypeId} (ht : P.underlying t = some .bool) (xo yo : Operand) (hb : abinB op x y = some v) (hx : RelV G h x X) (hy : RelV G h y Y) :
    ∃ V, (do eqGuard op t xo yo X Y; binOp op t X Y : Sem Value).run P w = .ok V w ∧ RelV G h v V := by
  unfold abinB at hb
  split at hb
  all_goals first | (cases hb; done) | skip
  all_goals
    rename_i a b
    have := hx.bool_inv; subst this
    have := hy.bool_inv; subst this
    simp only [Option.some.injEq] at hb; subst hb
    refine ⟨_, ?_, .p _ _ (.bool _)⟩
    have he := run_equalIn_bool (P := P) (w := w) ht 9999 a b
    simp only [Sem.run_bind, eqGuard_pure (P := P) (w := w) _ t xo yo (.bool a) (.bool b) (by simp), Result.andThen_ok]
    simp only [binOp, Sem.run_bind, Op.equal, Op.maxDepth, he, Result.andThen_ok, Sem.run_pure]

theorem aun_sound {op : UnOp} (hb : aun op x = some v) (hx : RelV G h x X) : ∃ V, (Op.unary op X).run P w = .ok V w ∧ RelV G h v V := by
  unfold aun at hb
  split at hb
  all_goals first | (cases hb; done) | skip
  all_goals simp only [Option.some.injEq] at hb; subst hb
  · have := hx.int_inv; subst this
    exact ⟨_, by simp [Op.unary, Op.intArith, Sem.run_pure], .p _ _ (.int _ _)⟩
  · have := hx.int_inv; subst this
    exact ⟨_, by simp [Op.unary, Op.intBits, Sem.run_pure], .p _ _ (.int _ _)⟩
  · have := hx.bool_inv; subst this
    exact ⟨_, by simp [Op.unary, Sem.run_pure], .p _ _ (.bool _)⟩

theorem aconvInt_sound {s d : TypeId} {k k0 : IntKind} (hs : P.underlying s = some (.int k0)) (hd : P.underlying d = some (.int k)) (hb : aconvInt k x = some v) (hx : RelV G h x X) :
    ∃ V, (convert s d X).run P w = .ok V w ∧ RelV G h v V := by
  unfold aconvInt at hb
  split at hb <;> simp only [Option.some.injEq, reduceCtorEq] at hb
  subst hb
  have := hx.int_inv; subst this
  exact ⟨_, by simp [convert, run_underlying hs, run_underlying hd, Conv.intToInt, Sem.run_pure], .p _ _ (.int _ _)⟩

theorem apick_sound {c a b : AVal} {C A B : Value} (hb : apick c a b = some v) (hc : RelV G h c C) (ha : RelV G h a A) (hbb : RelV G h b B) :
    ∃ V, ((do pure (.value (if ← asBool C then A else B))) : Sem Next).run P w = .ok (.value V) w ∧ RelV G h v V := by
  unfold apick at hb
  split at hb <;> simp only [Option.some.injEq, reduceCtorEq] at hb
  rename_i g
  subst hb
  have := hc.bool_inv; subst this
  refine ⟨bif g then A else B, ?_, by cases g <;> assumption⟩
  cases g <;> simp [asBool, Sem.run_pure]

theorem aextract_sound {i : Nat} (hb : aextract i x = some v) (hx : RelV G h x X) : ∃ V, (Instr.extract X i).run P w = .ok V w ∧ RelV G h v V := by
  unfold aextract at hb
  split at hb
  · obtain ⟨C, rfl, hl, hr⟩ := hx.tuple_inv
    have hlt : i < C.size := by rw [← hl]; exact (List.getElem?_eq_some_iff.1 hb).1
    refine ⟨C.getD i undef, ?_, hr i v hb⟩
    simp [Instr.extract, Array.getElem?_eq_getElem hlt, Sem.run_pure]
  · cases hb

theorem apart_sound {g : Bool} {n off : Nat} {cs : List AVal} {C : Array Value} {t : TypeId} (hg : isAggT P t = some g) (hn : sizeT P t = some n)
    (hb : apart g n cs off = some v) (hl : cs.length = C.size) (hr : ∀ (i : Nat) (u : AVal), cs[i]? = some u → RelV G h u (C.getD i undef)) :
    ∃ V, (part t C off).run P w = .ok V w ∧ RelV G h v V := by
  have hagg := run_isAgg' (w := w) hg
  have hsz := run_sizeOf' (w := w) hn
  unfold apart at hb
  cases g with
  | true =>
    simp only [cond_true] at hb
    split at hb <;> simp only [Option.some.injEq, reduceCtorEq] at hb
    rename_i hle
    subst hb
    refine ⟨.agg (C.extract off (off + n)), ?_, .agg _ _ ?_ ?_⟩
    · simp [part, hagg, hsz]
    · simp; omega
    · intro i u hu
      have hi : i < n := by
        have := (List.getElem?_eq_some_iff.1 hu).1
        simp at this; omega
      rw [List.getElem?_take, if_pos hi, List.getElem?_drop] at hu
      have := hr _ _ hu
      have hsz2 : off + i < C.size := by omega
      rw [Array.getD_eq_getD_getElem?] at this ⊢
      rw [Array.getElem?_extract, if_pos (by omega)]
      exact this
  | false =>
    simp only [cond_false] at hb
    have hlt : off < C.size := by rw [← hl]; exact (List.getElem?_eq_some_iff.1 hb).1
    exact ⟨C.getD off undef, by simp [part, hagg, Array.getElem?_eq_getElem hlt, Sem.run_pure], hr off v hb⟩

end
end
section
open Go Go.RowKit

section
variable {P : Program} {G : Gh} {h : Heap} {w : World} {x y v : AVal} {X Y : Value}

theorem afield_sound {t ft : TypeId} {fs : Array Field} {f : Nat} {fd : Field} {g : Bool} {n : Nat} (ht : P.underlying t = some (.struct fs)) (hf : fs[f]? = some fd)
    (hg : isAggT P fd.type = some g) (hn : sizeT P fd.type = some n) (hb : afield g n fd.offset x = some v) (hx : RelV G h x X) :
    ∃ V, (Instr.field t X f).run P w = .ok V w ∧ RelV G h v V := by
  unfold afield at hb
  split at hb
  · obtain ⟨C, rfl, hl, hr⟩ := hx.agg_inv
    obtain ⟨V, h1, h2⟩ := apart_sound (w := w) hg hn hb hl hr
    exact ⟨V, by simp [Instr.field, run_underlying ht, hf, asAgg, h1, Sem.run_pure], h2⟩
  · cases hb

theorem aindexStr_sound {t : TypeId} (ht : P.underlying t = some .string) (hb : aindexStr x y = some v) (hx : RelV G h x X) (hy : RelV G h y Y) :
    ∃ V, (Instr.index t X Y).run P w = .ok V w ∧ RelV G h v V := by
  unfold aindexStr at hb
  split at hb
  · rename_i s k n
    split at hb
    · rename_i h0
      have := hx.str_inv; subst this
      have := hy.int_inv; subst this
      cases hs : s[n.toNat]? with
      | none => simp [hs] at hb
      | some b =>
        simp [hs] at hb; subst hb
        refine ⟨_, ?_, .p _ _ (.int _ _)⟩
        have hget : (⟨s.toArray⟩ : ByteArray)[n.toNat]? = some b := by
          have hlt : n.toNat < s.length := (List.getElem?_eq_some_iff.1 hs).1
          have hb2 : s[n.toNat] = b := (List.getElem?_eq_some_iff.1 hs).2
          have hsz : n.toNat < (⟨s.toArray⟩ : ByteArray).size := by show n.toNat < s.toArray.size; simpa using hlt
          rw [getElem?_pos (c := (⟨s.toArray⟩ : ByteArray)) (i := n.toNat) hsz]
          rw [← hb2]; rfl
        simp [Instr.index, asIntOf, run_underlying ht, h0, hget, Sem.run_pure]
    · cases hb
  · cases hb

theorem aindexArr_sound {t e : TypeId} {len sz : Nat} {g : Bool} (ht : P.underlying t = some (.array len e)) (hg : isAggT P e = some g) (hn : sizeT P e = some sz)
    (hb : aindexArr g len sz x y = some v) (hx : RelV G h x X) (hy : RelV G h y Y) : ∃ V, (Instr.index t X Y).run P w = .ok V w ∧ RelV G h v V := by
  unfold aindexArr at hb
  split at hb
  · rename_i cs k n
    split at hb
    · rename_i h0
      obtain ⟨C, rfl, hl, hr⟩ := hx.agg_inv
      have := hy.int_inv; subst this
      obtain ⟨V, h1, h2⟩ := apart_sound (w := w) hg hn hb hl hr
      exact ⟨V, by simp [Instr.index, asIntOf, run_underlying ht, h0, run_sizeOf' hn, h1, Sem.run_pure], h2⟩
    · cases hb
  · cases hb

theorem asliceBound {b : Option AVal} {B : Option Value} {dflt y0 n : Nat} {code : BoundsCode} (hb : abound b dflt = some n) (hle : n ≤ y0)
    (hr : ∀ u, b = some u → ∃ U, B = some U ∧ RelV G h u U) (hnone : b = none → B = none) :
    (match B with | some U => Instr.sliceBound U y0 code | none => (pure dflt : Sem Nat)).run P w = .ok n w := by
  unfold abound at hb
  cases b with
  | none => rw [hnone rfl]; simp at hb; subst hb; simp [Sem.run_pure]
  | some u =>
    obtain ⟨U, rfl, hU⟩ := hr u rfl
    cases u <;> simp at hb
    rename_i k m
    obtain ⟨h0, rfl⟩ := hb
    have := hU.int_inv; subst this
    have : (0:Int) ≤ m ∧ m ≤ (y0 : Int) := ⟨h0, by omega⟩
    simp [Instr.sliceBound, asIntOf, this, Sem.run_pure]

theorem run_sliceBounds {isS : Bool} {lo hi : Option AVal} {LO HI : Option Value} {len cap l u : Nat} (hlo : abound lo 0 = some l) (hhi : abound hi len = some u) (hlu : l ≤ u) (hlen : len ≤ cap) (huc : u ≤ cap)
    (hrl : ∀ a, lo = some a → ∃ U, LO = some U ∧ RelV G h a U) (hnl : lo = none → LO = none) (hrh : ∀ a, hi = some a → ∃ U, HI = some U ∧ RelV G h a U) (hnh : hi = none → HI = none) :
    (Instr.sliceBounds isS len cap LO HI none).run P w = .ok (l, u, cap) w := by
  have h1 := asliceBound (P := P) (w := w) (code := if isS then .sliceAcap else .sliceAlen) hhi huc hrh hnh
  have h2 := asliceBound (P := P) (w := w) (code := .sliceB) hlo hlu hrl hnl
  unfold Instr.sliceBounds
  cases HI with
  | none =>
    simp only [Sem.run_pure, Result.ok.injEq, and_true] at h1; subst h1
    cases LO with
    | none => simp only [Sem.run_pure, Result.ok.injEq, and_true] at h2; subst h2; simp [Sem.run_pure]
    | some L => simp only [] at h2; simp [h2, Sem.run_pure]
  | some Hh =>
    simp only [] at h1
    cases LO with
    | none => simp only [Sem.run_pure, Result.ok.injEq, and_true] at h2; subst h2; simp [h1, Sem.run_pure]
    | some L => simp only [] at h2; simp [h1, h2, Sem.run_pure]

theorem optRel {f : Operand → AVal} {F : Operand → Value} (hf : ∀ o, RelV G h (f o) (F o)) (o : Option Operand) :
    (∀ a, o.map f = some a → ∃ U, o.map F = some U ∧ RelV G h a U) ∧ (o.map f = none → o.map F = none) := by
  cases o with
  | none => simp
  | some o => exact ⟨fun a ha => ⟨F o, rfl, by simp at ha; subst ha; exact hf o⟩, by simp⟩

section slices
variable {lo hi : Option AVal} {LO HI : Option Value}
  (hrl : ∀ a, lo = some a → ∃ U, LO = some U ∧ RelV G h a U) (hnl : lo = none → LO = none) (hrh : ∀ a, hi = some a → ∃ U, HI = some U ∧ RelV G h a U) (hnh : hi = none → HI = none)
include hrl hnl hrh hnh

theorem asliceStr_sound {t : TypeId} (ht : P.underlying t = some .string) (hb : asliceStr x lo hi = some v) (hx : RelV G h x X) :
    ∃ V, (Instr.sliceAt t X LO HI none).run P w = .ok V w ∧ RelV G h v V := by
  unfold asliceStr at hb
  split at hb
  · rename_i s
    have := hx.str_inv; subst this
    split at hb
    · rename_i l u hl hu
      split at hb <;> simp only [Option.some.injEq, reduceCtorEq] at hb
      rename_i hlu
      subst hb
      have hsz : (⟨s.toArray⟩ : ByteArray).size = s.length := by show s.toArray.size = _; simp
      have hr := run_sliceBounds (P := P) (w := w) (isS := false) (len := s.length) (cap := s.length) hl hu hlu.1 (Nat.le_refl _) hlu.2 hrl hnl hrh hnh
      refine ⟨.string ((⟨s.toArray⟩ : ByteArray).extract l u), ?_, ?_⟩
      · simp [Instr.sliceAt, run_underlying ht, Instr.slice, hsz, hr, Sem.run_pure]
      · have : (⟨s.toArray⟩ : ByteArray).extract l u = ⟨((s.drop l).take (u - l)).toArray⟩ := by
          apply ByteArray.ext
          simp [ByteArray.data_extract]
        rw [this]; exact .p _ _ (.str _)
    · cases hb
  · cases hb

theorem asliceArr_sound {t e : TypeId} {len sz : Nat} (ht : P.underlying t = some (.array len e)) (hn : sizeT P e = some sz) (hb : asliceArr len sz x lo hi = some v) (hx : RelV G h x X) :
    ∃ V, (Instr.sliceAt t X LO HI none).run P w = .ok V w ∧ RelV G h v V := by
  have hadd : ∀ b off k, Addr.add ⟨b, off, none⟩ k = ⟨b, off + k, none⟩ := by
    intro b off k; unfold Addr.add; split <;> simp_all
  unfold asliceArr at hb
  split at hb
  · rename_i id off
    split at hb <;> simp only [Option.some.injEq, reduceCtorEq] at hb
    rename_i hlen
    subst hb
    obtain ⟨rfl, hl⟩ := hx.ptr_inv
    have h1 := hnl rfl
    have h2 := hnh rfl
    subst h1; subst h2
    refine ⟨.slice (some ⟨G.blk id, off, none⟩) len len, ?_, .mslice _ _ _ _ _ hl (Nat.le_refl _)⟩
    simp [Instr.sliceAt, run_underlying ht, Instr.sureAddr, Instr.sliceBounds, run_sizeOf' hn, Sem.run_pure, hadd]
  · cases hb

theorem asliceSl_sound {t e : TypeId} {sz : Nat} (ht : P.underlying t = some (.slice e)) (hn : sizeT P e = some sz) (hb : asliceSl sz x lo hi = some v) (hx : RelV G h x X) :
    ∃ V, (Instr.sliceAt t X LO HI none).run P w = .ok V w ∧ RelV G h v V := by
  unfold asliceSl at hb
  split at hb
  · rename_i rows tok
    have hp := hx.slice_inv
    split at hb
    · rename_i l u hl hu
      split at hb <;> simp only [Option.some.injEq, reduceCtorEq] at hb
      rename_i hlu
      obtain ⟨hlu1, hlu2, hall⟩ := hlu
      subst hb
      cases hp with
      | slice0 a cap =>
        simp only [List.length_nil, Nat.le_zero_eq] at hlu2
        subst hlu2
        have hl0 : l = 0 := by omega
        subst hl0
        have hr := run_sliceBounds (P := P) (w := w) (isS := true) (len := 0) (cap := cap) hl hu hlu1 (Nat.zero_le _) (Nat.zero_le _) hrl hnl hrh hnh
        refine ⟨.slice (if cap = 0 then a else a.map (·.add (0 * sz))) 0 cap, ?_, .p _ _ (by simp only [List.drop_nil, List.take_nil]; exact .slice0 _ _)⟩
        simp [Instr.sliceAt, run_underlying ht, Instr.slice, run_sizeOf' hn, hr, Sem.run_pure]
      | slice rows b off cap sz' V hr0 hc hH hk hV =>
        have hr := run_sliceBounds (P := P) (w := w) (isS := true) (len := rows.length) (cap := cap) hl hu hlu1 hc (by omega) hrl hnl hrh hnh
        refine ⟨.slice (if cap = l then some ⟨b, off, none⟩ else some (Addr.add ⟨b, off, none⟩ (l * sz))) (u - l) (cap - l), ?_, ?_⟩
        · simp [Instr.sliceAt, run_underlying ht, Instr.slice, run_sizeOf' hn, hr, Sem.run_pure]
        · have hlen : ((rows.drop l).take (u - l)).length = u - l := by simp; omega
          by_cases h0 : u - l = 0
          · have : (rows.drop l).take (u - l) = [] := by rw [h0]; simp
            rw [this, h0]; exact .p _ _ (.slice0 _ _)
          · have hcl : ¬ cap = l := by omega
            have hszz : sz' = sz := by
              have hm : rows[l]? = some rows[l] := List.getElem?_eq_getElem (by omega)
              have h1 := hr0 rows[l] (List.mem_of_getElem? hm)
              have h2 := List.all_eq_true.1 hall rows[l] (List.mem_of_getElem? hm)
              simp at h2; omega
            subst hszz
            rw [if_neg hcl]
            have hadd : Addr.add ⟨b, off, none⟩ (l * sz') = ⟨b, off + l * sz', none⟩ := by
              unfold Addr.add; split <;> simp_all
            rw [hadd]
            have hget : ∀ i (row : List AVal), ((rows.drop l).take (u - l))[i]? = some row → rows[l + i]? = some row := by
              intro i row hi
              rw [List.getElem?_take] at hi
              split at hi
              · rwa [List.getElem?_drop] at hi
              · cases hi
            have hmem : ∀ r ∈ (rows.drop l).take (u - l), r.length = sz' := fun r hrm => hr0 r (List.mem_of_mem_drop (List.mem_of_mem_take hrm))
            generalize (rows.drop l).take (u - l) = R at hlen hget hmem
            rw [← hlen]
            refine .p _ _ (.slice R b (off + l * sz') (cap - l) sz' (fun k => V (l * sz' + k)) hmem (by rw [hlen]; omega) ?_ ?_ ?_)
            · intro i j row v h1 h2
              have := hH (l + i) j row v (hget i row h1) h2
              rw [show off + l * sz' + (i * sz' + j) = off + ((l + i) * sz' + j) by rw [Nat.add_mul]; omega, this]
              congr 2; rw [Nat.add_mul]; omega
            · intro i j row v h1 h2; exact hk (l + i) j row v (hget i row h1) h2
            · intro i j row v h1 h2
              have := hV (l + i) j row v (hget i row h1) h2
              rw [show l * sz' + (i * sz' + j) = (l + i) * sz' + j by rw [Nat.add_mul]; omega]; exact this
    · cases hb
  · rename_i id off len sz'
    obtain ⟨a, cap, rfl, hlc, ha⟩ := hx.mslice_inv
    split at hb
    · rename_i l u hl hu
      split at hb <;> simp only [Option.some.injEq, reduceCtorEq] at hb
      rename_i hlu
      obtain ⟨hlu1, hlu2, rfl⟩ := hlu
      subst hb
      have hr := run_sliceBounds (P := P) (w := w) (isS := true) (len := len) (cap := cap) hl hu hlu1 hlc (by omega) hrl hnl hrh hnh
      refine ⟨.slice (if cap = l then a else a.map (·.add (l * sz'))) (u - l) (cap - l), ?_, ?_⟩
      · simp [Instr.sliceAt, run_underlying ht, Instr.slice, run_sizeOf' hn, hr, Sem.run_pure]
      · by_cases h0 : u - l = 0
        · rw [h0]; exact .mslice0 _ _ _ _ _
        · obtain ⟨rfl, hlv⟩ := ha (by omega)
          rw [if_neg (by omega)]
          have hadd : Addr.add ⟨G.blk id, off, none⟩ (l * sz') = ⟨G.blk id, off + l * sz', none⟩ := by
            unfold Addr.add; split <;> simp_all
          simp only [Option.map_some, hadd]
          exact .mslice id _ _ sz' _ hlv (by omega)
    · cases hb
  · rename_i id tot off len sz'
    obtain ⟨b, cap, rfl, hnf, htot, hlc, hv⟩ := hx.vslice_inv
    split at hb
    · rename_i l u hl hu
      split at hb
      case isFalse => cases hb
      rename_i hlu
      obtain ⟨hlu1, hlu2, rfl⟩ := hlu
      have hr := run_sliceBounds (P := P) (w := w) (isS := true) (len := len) (cap := cap) hl hu hlu1 hlc (by omega) hrl hnl hrh hnh
      have hrun : (Instr.sliceAt t (.slice (some ⟨b, off, none⟩) len cap) LO HI none).run P w = .ok (.slice (if cap = l then some ⟨b, off, none⟩ else (some (Addr.mk b off none)).map (·.add (l * sz'))) (u - l) (cap - l)) w := by
        simp [Instr.sliceAt, run_underlying ht, Instr.slice, run_sizeOf' hn, hr, Sem.run_pure]
      have hadd : Addr.add ⟨b, off, none⟩ (l * sz') = ⟨b, off + l * sz', none⟩ := by
        unfold Addr.add; split <;> simp_all
      split at hb <;> simp only [Option.some.injEq] at hb <;> subst hb
      · rename_i hor
        refine ⟨_, hrun, ?_⟩
        have haddr : (if cap = l then some (Addr.mk b off none) else (some (Addr.mk b off none)).map (·.add (l * sz'))) = some ⟨b, off + l * sz', none⟩ := by
          split
          · have : l = 0 := by omega
            subst this; simp
          · simp only [Option.map_some, hadd]
        rw [haddr]
        refine .vslice id tot _ _ sz' b _ hnf htot (by omega) fun e => ?_
        obtain ⟨l0, cap0, h1, h2, h3, h4⟩ := hv e
        exact ⟨l0 + l, cap0, h1, by rw [h2, Nat.add_mul], by omega, by omega⟩
      · rename_i hor
        have h0 : u - l = 0 := by omega
        refine ⟨_, hrun, ?_⟩
        rw [h0]; exact .p _ _ (.slice0 _ _)
    · cases hb
  · cases hb

end slices

theorem alenStr_sound {t : TypeId} {ty : TypeId} (ht : P.underlying t = some .string) (hb : alenStr x = some v) (hx : RelV G h x X) :
    ∃ V, (Builtin.len_ #[t] ty #[X]).run P w = .ok V w ∧ RelV G h v V := by
  unfold alenStr at hb
  split at hb <;> simp only [Option.some.injEq, reduceCtorEq] at hb
  subst hb
  rename_i s
  have := hx.str_inv; subst this
  refine ⟨.int .i64 s.length, ?_, .p _ _ (.int _ _)⟩
  have hsz : (⟨s.toArray⟩ : ByteArray).size = s.length := by show s.toArray.size = _; simp
  simp [Builtin.len_, run_underlying ht, goInt, hsz, Sem.run_pure]

theorem alenSl_sound {t : TypeId} {ty e : TypeId} (ht : P.underlying t = some (.slice e)) (hb : alenSl x = some v) (hx : RelV G h x X) :
    ∃ V, (Builtin.len_ #[t] ty #[X]).run P w = .ok V w ∧ RelV G h v V := by
  unfold alenSl at hb
  split at hb <;> simp only [Option.some.injEq, reduceCtorEq] at hb <;> subst hb
  · rename_i rows tok
    have hp := hx.slice_inv
    refine ⟨.int .i64 rows.length, ?_, .p _ _ (.int _ _)⟩
    cases hp <;> simp [Builtin.len_, run_underlying ht, goInt, Sem.run_pure]
  · rename_i id off len sz
    obtain ⟨a, cap, rfl, _⟩ := hx.mslice_inv
    exact ⟨.int .i64 len, by simp [Builtin.len_, run_underlying ht, goInt, Sem.run_pure], .p _ _ (.int _ _)⟩
  · rename_i id tot off len sz
    obtain ⟨a, cap, rfl, _⟩ := hx.vslice_inv
    exact ⟨.int .i64 len, by simp [Builtin.len_, run_underlying ht, goInt, Sem.run_pure], .p _ _ (.int _ _)⟩

theorem amax2_sound (hb : amax2 x y = some v) (hx : RelV G h x X) (hy : RelV G h y Y) : ∃ V, (Builtin.max2 X Y).run P w = .ok V w ∧ RelV G h v V := by
  unfold amax2 at hb
  split at hb <;> simp only [Option.some.injEq, reduceCtorEq] at hb
  subst hb
  have := hx.int_inv; subst this
  have := hy.int_inv; subst this
  exact ⟨_, by simp [Builtin.max2, Sem.run_pure], .p _ _ (.int _ _)⟩
theorem amin2_sound (hb : amin2 x y = some v) (hx : RelV G h x X) (hy : RelV G h y Y) : ∃ V, (Builtin.min2 X Y).run P w = .ok V w ∧ RelV G h v V := by
  unfold amin2 at hb
  split at hb <;> simp only [Option.some.injEq, reduceCtorEq] at hb
  subst hb
  have := hx.int_inv; subst this
  have := hy.int_inv; subst this
  exact ⟨_, by simp [Builtin.min2, Sem.run_pure], .p _ _ (.int _ _)⟩

theorem aminN_sound : ∀ {l : List AVal} {L : List Value} {x v : AVal} {X : Value}, aminN x l = some v → RelV G h x X → l.length = L.length → (∀ (j : Nat) (u : AVal) (U : Value), l[j]? = some u → L[j]? = some U → RelV G h u U) →
    ∃ V, (L.foldlM Builtin.min2 X).run P w = .ok V w ∧ RelV G h v V
  | [], [], x, v, X, hb, hx, _, _ => by
    simp only [aminN, Option.some.injEq] at hb
    subst hb
    exact ⟨X, rfl, hx⟩
  | [], _ :: _, _, _, _, _, _, hl, _ => by simp at hl
  | _ :: _, [], _, _, _, _, _, hl, _ => by simp at hl
  | y :: r, Y :: R, x, v, X, hb, hx, hl, hr => by
    simp only [aminN] at hb
    obtain ⟨z, hz, hb⟩ := Option.bind_eq_some_iff.1 hb
    obtain ⟨Z, e1, e2⟩ := amin2_sound (P := P) (w := w) hz hx (hr 0 y Y rfl rfl)
    obtain ⟨V, e3, e4⟩ := aminN_sound (L := R) hb e2 (by simpa using hl) fun j u U hu hU => hr (j + 1) u U hu hU
    exact ⟨V, by simp only [List.foldlM_cons, Sem.run_bind, e1, Result.andThen_ok, e3], e4⟩
theorem amaxN_sound : ∀ {l : List AVal} {L : List Value} {x v : AVal} {X : Value}, amaxN x l = some v → RelV G h x X → l.length = L.length → (∀ (j : Nat) (u : AVal) (U : Value), l[j]? = some u → L[j]? = some U → RelV G h u U) →
    ∃ V, (L.foldlM Builtin.max2 X).run P w = .ok V w ∧ RelV G h v V
  | [], [], x, v, X, hb, hx, _, _ => by
    simp only [amaxN, Option.some.injEq] at hb
    subst hb
    exact ⟨X, rfl, hx⟩
  | [], _ :: _, _, _, _, _, _, hl, _ => by simp at hl
  | _ :: _, [], _, _, _, _, _, hl, _ => by simp at hl
  | y :: r, Y :: R, x, v, X, hb, hx, hl, hr => by
    simp only [amaxN] at hb
    obtain ⟨z, hz, hb⟩ := Option.bind_eq_some_iff.1 hb
    obtain ⟨Z, e1, e2⟩ := amax2_sound (P := P) (w := w) hz hx (hr 0 y Y rfl rfl)
    obtain ⟨V, e3, e4⟩ := amaxN_sound (L := R) hb e2 (by simpa using hl) fun j u U hu hU => hr (j + 1) u U hu hU
    exact ⟨V, by simp only [List.foldlM_cons, Sem.run_bind, e1, Result.andThen_ok, e3], e4⟩

theorem afieldAt_sound {t : TypeId} {fs : Array Field} {f : Nat} {fd : Field} {n : Nat} (ht : P.underlying t = some (.struct fs)) (hf : fs[f]? = some fd)
    (hn : sizeT P fd.type = some (n + 1)) (hb : afieldAt fd.offset x = some v) (hx : RelV G h x X) :
    ∃ V, (Instr.fieldAt t X f).run P w = .ok V w ∧ RelV G h v V := by
  have run : ∀ b off, (Instr.fieldAt t (.pointer (some ⟨b, off, none⟩)) f).run P w = .ok (.pointer (some (Addr.add ⟨b, off, none⟩ fd.offset))) w := by
    intro b off
    simp [Instr.fieldAt, run_underlying ht, hf, Instr.sureAddr, fieldPlace, run_sizeOf' hn, Sem.run_pure]
  have hadd : ∀ b off, Addr.add ⟨b, off, none⟩ fd.offset = ⟨b, off + fd.offset, none⟩ := by
    intro b off; unfold Addr.add; split <;> simp_all
  unfold afieldAt at hb
  split at hb <;> simp only [Option.some.injEq, reduceCtorEq] at hb <;> subst hb
  · rename_i id o
    obtain ⟨rfl, hl⟩ := hx.ptr_inv
    exact ⟨_, run _ _, by rw [hadd]; exact .ptr _ _ hl⟩
  · rename_i id tot o
    obtain ⟨b, rfl, h1, h2, h3⟩ := hx.vptr_inv
    exact ⟨_, run _ _, by rw [hadd]; exact .vptr _ _ _ b h1 h2 h3⟩
  · rename_i cs
    have hp := hx.pptr_inv
    cases hp with
    | pptr cs b off V hH hk hV =>
      refine ⟨_, run _ _, .p _ _ ?_⟩
      rw [hadd]
      refine .pptr _ b (off + fd.offset) (fun j => V (fd.offset + j)) ?_ ?_ ?_
      · intro j v hj; rw [List.getElem?_drop] at hj; have := hH _ v hj; rw [← this]; congr 1; omega
      · intro j v hj; rw [List.getElem?_drop] at hj; exact hk _ v hj
      · intro j v hj; rw [List.getElem?_drop] at hj; exact hV _ v hj

theorem aindexSl_sound {t e : TypeId} {sz : Nat} (ht : P.underlying t = some (.slice e)) (hn : sizeT P e = some sz) (hb : aindexSl sz x y = some v) (hx : RelV G h x X) (hy : RelV G h y Y) :
    ∃ V, (Instr.indexAt t X Y).run P w = .ok V w ∧ RelV G h v V := by
  have hadd : ∀ b off k, Addr.add ⟨b, off, none⟩ k = ⟨b, off + k, none⟩ := by
    intro b off k; unfold Addr.add; split <;> simp_all
  unfold aindexSl at hb
  split at hb
  · rename_i rows tok k n
    have := hy.int_inv; subst this
    split at hb
    · rename_i h0
      split at hb
      · rename_i row hrow
        split at hb <;> simp only [Option.some.injEq, reduceCtorEq] at hb
        rename_i hlen
        subst hb
        have hp := hx.slice_inv
        have hlt : n.toNat < rows.length := (List.getElem?_eq_some_iff.1 hrow).1
        cases hp with
        | slice0 a cap => simp at hlt
        | slice rows b off cap sz' V hr hc hH hk hV =>
          have : sz' = sz := by rw [← hr row (List.mem_of_getElem? hrow), hlen]
          subst this
          have hcond : (0:Int) ≤ n ∧ n < (rows.length : Int) := ⟨h0, by omega⟩
          refine ⟨.pointer (some (Addr.add ⟨b, off, none⟩ (n.toNat * sz'))), ?_, .p _ _ ?_⟩
          · simp [Instr.indexAt, asIntOf, run_underlying ht, hcond, run_sizeOf' hn, Sem.run_pure]
          · rw [hadd]
            refine .pptr _ b _ (fun j => V (n.toNat * sz' + j)) ?_ ?_ ?_
            · intro j v hj; rw [← hH _ j row v hrow hj]; congr 1; omega
            · intro j v hj; exact hk _ j row v hrow hj
            · intro j v hj; exact hV _ j row v hrow hj
      · cases hb
    · cases hb
  · rename_i id off len sz' k n
    have := hy.int_inv; subst this
    split at hb <;> simp only [Option.some.injEq, reduceCtorEq] at hb
    rename_i hc
    obtain ⟨h0, hlt, rfl⟩ := hc
    subst hb
    obtain ⟨a, cap, rfl, hlc, ha⟩ := hx.mslice_inv
    obtain ⟨rfl, hlv⟩ := ha (by omega)
    refine ⟨.pointer (some (Addr.add ⟨G.blk id, off, none⟩ (n.toNat * sz'))), ?_, ?_⟩
    · simp [Instr.indexAt, asIntOf, run_underlying ht, h0, hlt, run_sizeOf' hn, Sem.run_pure]
    · rw [hadd]; exact .ptr _ _ hlv
  · rename_i id tot off len sz' k n
    have := hy.int_inv; subst this
    split at hb <;> simp only [Option.some.injEq, reduceCtorEq] at hb
    rename_i hc
    obtain ⟨h0, hlt, rfl⟩ := hc
    subst hb
    obtain ⟨b, cap, rfl, hnf, htot, hlc, hv⟩ := hx.vslice_inv
    refine ⟨.pointer (some (Addr.add ⟨b, off, none⟩ (n.toNat * sz'))), ?_, ?_⟩
    · simp [Instr.indexAt, asIntOf, run_underlying ht, h0, hlt, run_sizeOf' hn, Sem.run_pure]
    · rw [hadd]
      refine .vptr _ _ _ b hnf htot fun e => ?_
      obtain ⟨l0, cap0, h1, _⟩ := hv e
      exact ⟨cap0, h1⟩
  · cases hb

theorem aindexAt_sound {t e : TypeId} {len sz : Nat} (ht : P.underlying t = some (.array len e)) (hn : sizeT P e = some sz) (hb : aindexAt len sz x y = some v) (hx : RelV G h x X) (hy : RelV G h y Y) :
    ∃ V, (Instr.indexAt t X Y).run P w = .ok V w ∧ RelV G h v V := by
  have hadd : ∀ b off k, Addr.add ⟨b, off, none⟩ k = ⟨b, off + k, none⟩ := by
    intro b off k; unfold Addr.add; split <;> simp_all
  unfold aindexAt at hb
  split at hb
  · rename_i id off k n
    have := hy.int_inv; subst this
    split at hb <;> simp only [Option.some.injEq, reduceCtorEq] at hb
    rename_i hc
    subst hb
    obtain ⟨rfl, hl⟩ := hx.ptr_inv
    refine ⟨.pointer (some (Addr.add ⟨G.blk id, off, none⟩ (n.toNat * sz))), ?_, ?_⟩
    · simp [Instr.indexAt, asIntOf, run_underlying ht, Instr.sureAddr, hc, run_sizeOf' hn, Sem.run_pure]
    · rw [hadd]; exact .ptr _ _ hl
  · rename_i cs k n
    have := hy.int_inv; subst this
    split at hb <;> simp only [Option.some.injEq, reduceCtorEq] at hb
    rename_i hc
    subst hb
    have hp := hx.pptr_inv
    cases hp with
    | pptr cs b off V hH hk hV =>
      refine ⟨.pointer (some (Addr.add ⟨b, off, none⟩ (n.toNat * sz))), ?_, .p _ _ ?_⟩
      · simp [Instr.indexAt, asIntOf, run_underlying ht, Instr.sureAddr, hc, run_sizeOf' hn, Sem.run_pure]
      · rw [hadd]
        refine .pptr _ b _ (fun j => V (n.toNat * sz + j)) ?_ ?_ ?_
        · intro j v hj; rw [List.getElem?_drop] at hj; rw [← hH _ v hj]; congr 1; omega
        · intro j v hj; rw [List.getElem?_drop] at hj; exact hk _ v hj
        · intro j v hj; rw [List.getElem?_drop] at hj; exact hV _ v hj
  · cases hb

end
end
section
open Go Go.RowKit

theorem aeqAll_append : ∀ {k1 k2 : List Kd} {x y : List AVal} {b : Bool}, aeqAll (k1 ++ k2) x y = some b →
    ∃ p q, aeqAll k1 (x.take k1.length) (y.take k1.length) = some p ∧ aeqAll k2 (x.drop k1.length) (y.drop k1.length) = some q ∧ b = (p && q)
  | [], k2, x, y, b, h => ⟨true, b, by simp [aeqAll], by simpa using h, by simp⟩
  | k :: k1, k2, [], y, b, h => by simp [aeqAll] at h
  | k :: k1, k2, _ :: _, [], b, h => by simp [aeqAll] at h
  | k :: k1, k2, x :: xs, y :: ys, b, h => by
    simp only [List.cons_append, aeqAll] at h
    split at h <;> simp only [Option.some.injEq, reduceCtorEq] at h
    rename_i u v hu hv
    obtain ⟨p, q, h1, h2, h3⟩ := aeqAll_append hv
    exact ⟨u && p, q, by simp [aeqAll, hu, h1], by simpa using h2, by rw [← h, h3, Bool.and_assoc]⟩

theorem aeqAll_len : ∀ {ks : List Kd} {x y : List AVal} {b : Bool}, aeqAll ks x y = some b → x.length = ks.length ∧ y.length = ks.length
  | [], [], [], _, _ => ⟨rfl, rfl⟩
  | [], _ :: _, _, _, h => by simp [aeqAll] at h
  | [], [], _ :: _, _, h => by simp [aeqAll] at h
  | _ :: _, [], _, _, h => by simp [aeqAll] at h
  | _ :: _, _ :: _, [], _, h => by simp [aeqAll] at h
  | k :: ks, x :: xs, y :: ys, b, h => by
    simp only [aeqAll] at h
    split at h <;> simp only [Option.some.injEq, reduceCtorEq] at h
    rename_i u v hu hv
    obtain ⟨h1, h2⟩ := aeqAll_len hv
    simp [h1, h2]

/-- A value as its cells. -/
def Rep (G : Gh) (h : Heap) (g : Bool) (cx : List AVal) (X : Value) : Prop :=
  match g with
  | true => ∃ C : Array Value, X = .agg C ∧ cx.length = C.size ∧ ∀ (i : Nat) (v : AVal), cx[i]? = some v → RelV G h v (C.getD i undef)
  | false => ∃ c, cx = [c] ∧ RelV G h c X

section
variable {P : Program} {G : Gh} {h : Heap} {w : World} {x y v : AVal} {X Y : Value}

/-- A part of an aggregate, as its cells. -/
theorem part_rep {t : TypeId} {g : Bool} {n off : Nat} {cx : List AVal} {C : Array Value} (hg : isAggT P t = some g) (hn : sizeT P t = some n) (h1 : g = false → n = 1)
    (hl : cx.length = C.size) (hr : ∀ (i : Nat) (v : AVal), cx[i]? = some v → RelV G h v (C.getD i undef)) (hle : off + n ≤ cx.length) :
    ∃ V, (part t C off).run P w = .ok V w ∧ Rep G h g ((cx.drop off).take n) V := by
  cases g with
  | true =>
    obtain ⟨V, e1, e2⟩ := apart_sound (P := P) (w := w) (off := off) (v := .agg ((cx.drop off).take n)) hg hn (by simp [apart, hle]) hl hr
    exact ⟨V, e1, e2.agg_inv⟩
  | false =>
    have := h1 rfl; subst this
    have hlt : off < cx.length := by omega
    obtain ⟨V, e1, e2⟩ := apart_sound (P := P) (w := w) (off := off) (v := cx[off]) hg hn (by simp [apart, hlt]) hl hr
    exact ⟨V, e1, cx[off], by rw [List.drop_eq_getElem_cons hlt, List.take_succ_cons, List.take_zero], e2⟩

theorem eqFields_sound (P : Program) (G : Gh) (h : Heap) (w : World) (d D : Nat)
    (ih : ∀ (t : TypeId) (ks : List Kd) (g : Bool) (cx cy : List AVal) (X Y : Value) (b : Bool), eqKinds P d t = some ks → isAggT P t = some g → aeqAll ks cx cy = some b →
      Rep G h g cx X → Rep G h g cy Y → (Op.equalIn D t X Y).run P w = .ok b w)
    {cx cy : List AVal} {C E : Array Value} (hlx : cx.length = C.size) (hrx : ∀ (i : Nat) (v : AVal), cx[i]? = some v → RelV G h v (C.getD i undef))
    (hly : cy.length = E.size) (hry : ∀ (i : Nat) (v : AVal), cy[i]? = some v → RelV G h v (E.getD i undef)) :
    ∀ (fs : List Field) (off : Nat) (ks : List Kd) (b : Bool), eqKindsFs P (eqKinds P d) fs off = some ks → aeqAll ks (cx.drop off) (cy.drop off) = some b →
      (Op.eqFields D C E fs).run P w = .ok b w
  | [], off, ks, b, hk, hb => by
    simp only [eqKindsFs, Option.some.injEq] at hk; subst hk
    have : b = true := by
      generalize cx.drop off = a at hb; generalize cy.drop off = c at hb
      cases a <;> cases c <;> simp_all [aeqAll]
    subst this
    simp [Op.eqFields, Sem.run_pure]
  | f :: fs, off, ks, b, hk, hb => by
    simp only [eqKindsFs] at hk
    cases hnm : (f.name == "_" || f.offset != off) with
    | true => simp [hnm] at hk
    | false =>
      simp only [hnm, cond_false] at hk
      simp only [Bool.or_eq_false_iff, beq_eq_false_iff_ne, bne_eq_false_iff_eq] at hnm
      obtain ⟨hname, hoff⟩ := hnm
      split at hk
      · rename_i k1 hk1
        cases hsz : (sizeT P f.type == some k1.length && k1.length != 0) with
        | false => simp [hsz] at hk
        | true =>
          simp only [hsz, cond_true] at hk
          simp only [Bool.and_eq_true, beq_iff_eq, bne_iff_ne, ne_eq] at hsz
          obtain ⟨hsz, hne⟩ := hsz
          split at hk <;> simp only [Option.some.injEq, reduceCtorEq] at hk
          rename_i k2 hk2
          subst hk
          obtain ⟨p, q, e1, e2, rfl⟩ := aeqAll_append hb
          obtain ⟨l1, l2⟩ := aeqAll_len e1
          obtain ⟨g, hg⟩ : ∃ g, isAggT P f.type = some g := by
            unfold isAggT
            cases d with
            | zero => simp [eqKinds] at hk1
            | succ d =>
              simp only [eqKinds] at hk1
              cases hu : P.underlying f.type with
              | none => simp [hu] at hk1
              | some dd => cases dd <;> simp
          have h1 : g = false → k1.length = 1 := by
            intro hgf; subst hgf
            cases d with
            | zero => simp [eqKinds] at hk1
            | succ d =>
              simp only [eqKinds] at hk1
              unfold isAggT at hg
              cases hu : P.underlying f.type with
              | none => simp [hu] at hk1
              | some dd => cases dd <;> simp_all <;> subst hk1 <;> rfl
          have lx : off + k1.length ≤ cx.length := by rw [List.length_take, List.length_drop] at l1; omega
          have ly : off + k1.length ≤ cy.length := by rw [List.length_take, List.length_drop] at l2; omega
          obtain ⟨V1, p1, r1⟩ := part_rep (w := w) (off := off) hg hsz h1 hlx hrx lx
          obtain ⟨V2, p2, r2⟩ := part_rep (w := w) (off := off) hg hsz h1 hly hry ly
          have he := ih f.type k1 g _ _ V1 V2 p hk1 hg e1 r1 r2
          have hrest := eqFields_sound P G h w d D ih hlx hrx hly hry fs (off + k1.length) k2 q hk2 (by simpa [List.drop_drop] using e2)
          simp only [Op.eqFields, hoff, ne_eq, hname, not_false_eq_true, if_true, Sem.run_bind, p1, p2, he, Result.andThen_ok, Sem.run_ite]
          cases p <;> simp [Sem.run_pure, hrest]
      · cases hk

theorem equalIn_sound (P : Program) (G : Gh) (h : Heap) (w : World) : ∀ (d D : Nat), d ≤ D → ∀ (t : TypeId) (ks : List Kd) (g : Bool) (cx cy : List AVal) (X Y : Value) (b : Bool),
    eqKinds P d t = some ks → isAggT P t = some g → aeqAll ks cx cy = some b → Rep G h g cx X → Rep G h g cy Y → (Op.equalIn D t X Y).run P w = .ok b w
  | 0, _, _, _, _, _, _, _, _, _, _, hk, _, _, _, _ => by simp [eqKinds] at hk
  | d + 1, 0, hd, _, _, _, _, _, _, _, _, _, _, _, _, _ => by omega
  | d + 1, D + 1, hd, t, ks, g, cx, cy, X, Y, b, hk, hg, hb, hx, hy => by
    simp only [eqKinds] at hk
    have scal : g = false → ∀ k, ks = [k] → ∃ c c', cx = [c] ∧ cy = [c'] ∧ RelV G h c X ∧ RelV G h c' Y ∧ aeqK k c c' = some b := by
      intro hgf k hks; subst hgf; subst hks
      obtain ⟨c, rfl, hc⟩ := hx
      obtain ⟨c', rfl, hc'⟩ := hy
      refine ⟨c, c', rfl, rfl, hc, hc', ?_⟩
      simp only [aeqAll] at hb
      split at hb <;> simp_all
    split at hk
    · rename_i hu
      have hgf : g = false := by simpa [isAggT, hu] using hg.symm
      obtain ⟨c, c', rfl, rfl, hc, hc', he⟩ := scal hgf .b (by simpa using hk.symm)
      unfold aeqK at he
      split at he <;> simp_all
      have := hc.bool_inv; subst this
      have := hc'.bool_inv; subst this
      rw [run_equalIn_bool hu D]; simp_all
    · rename_i k0 hu
      have hgf : g = false := by simpa [isAggT, hu] using hg.symm
      obtain ⟨c, c', rfl, rfl, hc, hc', he⟩ := scal hgf .i (by simpa using hk.symm)
      unfold aeqK at he
      split at he
      · rename_i k a k' a'
        split at he <;> simp only [Option.some.injEq, reduceCtorEq] at he
        rename_i hkk; subst hkk; subst he
        have := hc.int_inv; subst this
        have := hc'.int_inv; subst this
        exact run_equalIn_int w D t _ _ _ _ hu
      · simp_all
      · simp_all
      · cases he
    · rename_i hu
      have hgf : g = false := by simpa [isAggT, hu] using hg.symm
      obtain ⟨c, c', rfl, rfl, hc, hc', he⟩ := scal hgf .s (by simpa using hk.symm)
      cases c <;> cases c' <;> simp only [aeqK, Option.some.injEq, reduceCtorEq] at he
      rename_i a a'
      subst he
      have := hc.str_inv; subst this
      have := hc'.str_inv; subst this
      have := run_equalIn_string (P := P) w D t ⟨a.toArray⟩ ⟨a'.toArray⟩ hu
      simpa using this
    · rename_i fs hu
      have hgt : g = true := by simpa [isAggT, hu] using hg.symm
      subst hgt
      cases hst : P.stoodInHeld t with
      | true => simp [hst] at hk
      | false =>
        simp only [hst, cond_false] at hk
        obtain ⟨C, rfl, hlx, hrx⟩ := hx
        obtain ⟨E, rfl, hly, hry⟩ := hy
        have hfo : P.fieldsOf t = fs := by simp [Program.fieldsOf, hu]
        rw [run_equalIn_struct w D t C E (by rw [hfo]; exact hu) hst, hfo]
        exact eqFields_sound P G h w d D (fun t ks g cx cy X Y b => equalIn_sound P G h w d D (by omega) t ks g cx cy X Y b) hlx hrx hly hry fs.toList 0 ks b hk (by simpa using hb)
    · cases hk

theorem eqAgg_sound {t : TypeId} {ks : List Kd} {b : Bool} {fs : Array Field} (ht : P.underlying t = some (.struct fs)) (hk : eqStruct P t = some ks) (xo yo : Operand)
    (hb : aeqAgg ks x y = some b) (hx : RelV G h x X) (hy : RelV G h y Y) :
    (do eqGuard .eql t xo yo X Y; binOp .eql t X Y : Sem Value).run P w = .ok (.bool b) w ∧ (do eqGuard .neq t xo yo X Y; binOp .neq t X Y : Sem Value).run P w = .ok (.bool (!b)) w := by
  unfold eqStruct at hk
  split at hk
  · rename_i ks' hks
    cases hm : P.eqGuardType P.depth t with
    | true => simp [hm] at hk
    | false =>
      simp only [hm, cond_false, Option.some.injEq] at hk; subst hk
      unfold aeqAgg at hb
      split at hb
      · obtain ⟨C, rfl, hlx, hrx⟩ := hx.agg_inv
        obtain ⟨E, rfl, hly, hry⟩ := hy.agg_inv
        have he := equalIn_sound P G h w 12 10000 (by omega) t ks' true _ _ (.agg C) (.agg E) b hks (by simp [isAggT, ht]) hb ⟨C, rfl, hlx, hrx⟩ ⟨E, rfl, hly, hry⟩
        constructor
        · simp only [Sem.run_bind, run_eqGuard_agg w .eql t xo yo C E hm, Result.andThen_ok, run_eql_struct, he]
        · simp only [Sem.run_bind, run_eqGuard_agg w .neq t xo yo C E hm, Result.andThen_ok, run_neq_struct, he]
      · cases hb
  · cases hk

end
end
section
open Go Go.RowKit

def ownerB (G : Gh) (id : Nat) : ABlk → Option Nat
  | .cells _ | .map _ | .tcells _ _ => some (G.blk id)
  | .front _ _ _ | .vec _ _ _ => (G.cur id).ownBlock
  | _ => none

theorem owner_eq {G : Gh} {h : Heap} {id : Nat} {bl : ABlk} (hb : h[id]? = some bl) : owner G h id = ownerB G id bl := by
  unfold owner; rw [hb]; cases bl <;> rfl
theorem owner_some {G : Gh} {h : Heap} {id b : Nat} (ho : owner G h id = some b) : ∃ bl, h[id]? = some bl ∧ ownerB G id bl = some b := by
  cases hb : h[id]? with
  | none => simp [owner, hb] at ho
  | some bl => exact ⟨bl, rfl, by rw [← owner_eq hb]; exact ho⟩

theorem BlkOk.lt {G : Gh} {h : Heap} {w : World} {id b : Nat} {bl : ABlk} (hk : BlkOk G h w id bl) (ho : ownerB G id bl = some b) : b < w.heap.size := by
  have aux : ∀ {o : Obj}, w.heap[b]? = some o → b < w.heap.size := fun h => (Array.getElem?_eq_some_iff.1 h).1
  cases bl with
  | free => cases ho
  | gone => cases ho
  | cells cs => obtain ⟨C, e, h1, _⟩ := hk; cases ho; exact aux h1
  | tcells t cs => obtain ⟨C, h1, _⟩ := hk; cases ho; exact aux h1
  | map es => obtain ⟨E, c, h1, _⟩ := hk; cases ho; exact aux h1
  | front n sz t =>
    rcases hk with ⟨_, h1⟩ | ⟨b', cap, C, e, h1, h2, _⟩
    · simp [ownerB, h1, Value.ownBlock] at ho
    · simp [ownerB, h1, Value.ownBlock] at ho; subst ho; exact aux h2
  | vec tot sz cs =>
    obtain ⟨b', cap, C, e, h1, h2, _⟩ := hk
    simp [ownerB, h1, Value.ownBlock] at ho; subst ho; exact aux h2

theorem Inv.lt {G : Gh} {h : Heap} {w : World} (i : Inv G h w) {id b : Nat} (ho : owner G h id = some b) : b < w.heap.size := by
  obtain ⟨bl, hb, hob⟩ := owner_some ho
  exact (i.blk id bl hb).lt hob

theorem BlkOk.keep {G G' : Gh} {h h' : Heap} {w w' : World} {id : Nat} {bl : ABlk} (m : Mono G h G' h') (hblk : G'.blk id = G.blk id) (hcur : G'.cur id = G.cur id)
    (hh : ∀ b, ownerB G id bl = some b → w'.heap[b]? = w.heap[b]? ∧ ∀ k, G'.H b k = G.H b k) (hk : BlkOk G h w id bl) : BlkOk G' h' w' id bl := by
  cases bl with
  | free => trivial
  | gone => trivial
  | cells cs =>
    obtain ⟨C, e, h1, h2, h3, h4⟩ := hk
    obtain ⟨e1, e2⟩ := hh _ rfl
    exact ⟨C, e, by rw [hblk, e1, h1], h2, fun k => by rw [hblk, e2, h3], fun i v hv => ⟨(h4 i v hv).1, (h4 i v hv).2.mono m⟩⟩
  | tcells t cs =>
    obtain ⟨C, h1, h2, h3, h4⟩ := hk
    obtain ⟨e1, e2⟩ := hh _ rfl
    exact ⟨C, by rw [hblk, e1, h1], h2, fun k => by rw [hblk, e2, h3], fun i v hv => ⟨(h4 i v hv).1, (h4 i v hv).2.mono m⟩⟩
  | map es =>
    obtain ⟨E, c, h1, h2, h3, h4, h5⟩ := hk
    obtain ⟨e1, e2⟩ := hh _ rfl
    refine ⟨E, c, by rw [hblk, e1, h1], h2, fun k => by rw [hblk, e2, h3], fun i kv hv => ?_, h5⟩
    obtain ⟨mm, a1, a2, a3, a4⟩ := h4 i kv hv
    exact ⟨mm, a1, a2, a3.mono m.hmono, a4.mono m⟩
  | front n sz t =>
    rcases hk with ⟨h0, h1⟩ | ⟨b, cap, C, e, h1, h2, h3, h4, h5, h50, h6, h7⟩
    · exact .inl ⟨h0, by rw [hcur, h1]⟩
    · obtain ⟨e1, e2⟩ := hh b (by simp [ownerB, h1, Value.ownBlock])
      exact .inr ⟨b, cap, C, e, by rw [hcur, h1], by rw [e1, h2], h3, h4, h5, h50, fun k hk => by rw [e2, h6 k hk], h7⟩
  | vec tot sz cs =>
    obtain ⟨b, cap, C, e, h1, h2, h3, h4, h5, h6, h7, h8, h9⟩ := hk
    obtain ⟨e1, e2⟩ := hh b (by simp [ownerB, h1, Value.ownBlock])
    exact ⟨b, cap, C, e, by rw [hcur, h1], by rw [e1, h2], h3, h4, h5, h6, h7, fun k => by rw [e2, h8 k], fun i v hv => ⟨(h9 i v hv).1, (h9 i v hv).2.mono m⟩⟩

/-- New abstract blocks behind the old ones; what was there in the world stands. -/
theorem Inv.push {G G' : Gh} {h : Heap} {ext : List ABlk} {w w' : World} (i : Inv G h w)
    (os : w'.os = w.os) (tape : w'.tape = w.tape) (output : w'.output = w.output) (size : w.heap.size ≤ w'.heap.size)
    (heap : ∀ k, k < w.heap.size → w'.heap[k]? = w.heap[k]?)
    (gblk : ∀ id, id < h.length → G'.blk id = G.blk id) (gcur : ∀ id, id < h.length → G'.cur id = G.cur id)
    (hH : ∀ b k v, G.H b k = some v → G'.H b k = some v) (hHold : ∀ b k, b < w.heap.size → G'.H b k = G.H b k)
    (hok : ∀ b k v, w.heap.size ≤ b → G'.H b k = some v → w'.cell? ⟨b, k, none⟩ = some v)
    (hnew : ∀ j bl, ext[j]? = some bl → Mono G h G' (h ++ ext) → BlkOk G' (h ++ ext) w' (h.length + j) bl)
    (hown : ∀ j bl b, ext[j]? = some bl → ownerB G' (h.length + j) bl = some b → w.heap.size ≤ b)
    (hinj : ∀ j j' bl bl' b, ext[j]? = some bl → ext[j']? = some bl' → ownerB G' (h.length + j) bl = some b → ownerB G' (h.length + j') bl' = some b → j = j') :
    Inv G' (h ++ ext) w' ∧ Ext G h w G' (h ++ ext) w' := by
  have m : Mono G h G' (h ++ ext) := ⟨hH, fun id bl hb => by
    have hlt : id < h.length := (List.getElem?_eq_some_iff.1 hb).1
    refine ⟨bl, by rw [List.getElem?_append_left hlt]; exact hb, ?_⟩
    have e1 := gblk id hlt
    have e2 := gcur id hlt
    cases bl <;> simp [Kind, e1, e2]⟩
  have hget : ∀ id bl, (h ++ ext)[id]? = some bl → (id < h.length ∧ h[id]? = some bl) ∨ (h.length ≤ id ∧ ext[id - h.length]? = some bl) := by
    intro id bl hb
    by_cases hlt : id < h.length
    · rw [List.getElem?_append_left hlt] at hb; exact .inl ⟨hlt, hb⟩
    · rw [List.getElem?_append_right (by omega)] at hb; exact .inr ⟨by omega, hb⟩
  have own : ∀ id b, owner G' (h ++ ext) id = some b → (id < h.length ∧ owner G h id = some b) ∨ (h.length ≤ id ∧ w.heap.size ≤ b ∧ ∃ bl, ext[id - h.length]? = some bl ∧ ownerB G' id bl = some b) := by
    intro id b ho
    obtain ⟨bl, hb, hob⟩ := owner_some ho
    rcases hget id bl hb with ⟨hlt, h1⟩ | ⟨hge, h1⟩
    · refine .inl ⟨hlt, ?_⟩
      rw [owner_eq h1]
      cases bl <;> simp_all [ownerB]
    · have he : h.length + (id - h.length) = id := by omega
      exact .inr ⟨hge, hown _ bl b h1 (by rw [he]; exact hob), bl, h1, hob⟩
  refine ⟨⟨?_, ?_, ?_⟩, ⟨os, tape, output, size, fun b hb _ => ⟨heap b hb, fun k => hHold b k hb⟩, hH, ?_, m.kinds⟩⟩
  · intro b k v hv
    by_cases hb : b < w.heap.size
    · rw [hHold b k hb] at hv
      rw [World.cell?_of_block (w := w) (heap b hb)]
      exact i.ok b k v hv
    · exact hok b k v (by omega) hv
  · intro id bl hb
    rcases hget id bl hb with ⟨hlt, h1⟩ | ⟨hge, h1⟩
    · refine (i.blk id bl h1).keep m (gblk id hlt) (gcur id hlt) fun b ho => ?_
      have hb := (i.blk id bl h1).lt ho
      exact ⟨heap b hb, fun k => hHold b k hb⟩
    · have := hnew (id - h.length) bl h1 m
      rwa [show h.length + (id - h.length) = id by omega] at this
  · intro x y b hx hy
    rcases own x b hx with ⟨_, h1⟩ | ⟨hx1, hx2, bl, hx3, hx4⟩ <;> rcases own y b hy with ⟨_, h2⟩ | ⟨hy1, hy2, bl', hy3, hy4⟩
    · exact i.inj x y b h1 h2
    · have := i.lt h1; omega
    · have := i.lt h2; omega
    · have := hinj (x - h.length) (y - h.length) bl bl' b hx3 hy3 (by rw [show h.length + (x - h.length) = x by omega]; exact hx4) (by rw [show h.length + (y - h.length) = y by omega]; exact hy4)
      omega
  · intro id b ho hb
    rcases own id b ho with ⟨_, h1⟩ | ⟨_, h2, _⟩
    · exact h1
    · omega

/-- One abstract block changes; in the world its own block alone, and new ones. -/
theorem Inv.step {G G' : Gh} {h : Heap} {w w' : World} (i : Inv G h w) (id : Nat) (old new : ABlk) (hold : h[id]? = some old)
    (os : w'.os = w.os) (tape : w'.tape = w.tape) (output : w'.output = w.output) (size : w.heap.size ≤ w'.heap.size)
    (heap : ∀ k, k < w.heap.size → ownerB G id old ≠ some k → w'.heap[k]? = w.heap[k]?)
    (gblk : ∀ j, j ≠ id → G'.blk j = G.blk j) (gcur : ∀ j, j ≠ id → G'.cur j = G.cur j)
    (hH : ∀ b k v, G.H b k = some v → G'.H b k = some v) (hHold : ∀ b k, b < w.heap.size → ownerB G id old ≠ some b → G'.H b k = G.H b k)
    (hok : ∀ b k v, (w.heap.size ≤ b ∨ ownerB G id old = some b) → G'.H b k = some v → w'.cell? ⟨b, k, none⟩ = some v)
    (hkind : Kind G G' id old new)
    (hnew : Mono G h G' (h.set id new) → BlkOk G' (h.set id new) w' id new)
    (hown : ∀ b, ownerB G' id new = some b → w.heap.size ≤ b ∨ ownerB G id old = some b) :
    Inv G' (h.set id new) w' ∧ Ext G h w G' (h.set id new) w' := by
  have hlt : id < h.length := (List.getElem?_eq_some_iff.1 hold).1
  have hsame : (h.set id new)[id]? = some new := by simp [hlt]
  have hne : ∀ j, j ≠ id → (h.set id new)[j]? = h[j]? := fun j hj => List.getElem?_set_ne (Ne.symm hj)
  have m : Mono G h G' (h.set id new) := ⟨hH, fun j bl hb => by
    by_cases hj : j = id
    · subst hj; rw [hold] at hb; cases hb; exact ⟨new, hsame, hkind⟩
    · refine ⟨bl, by rw [hne j hj]; exact hb, ?_⟩
      have e1 := gblk j hj
      have e2 := gcur j hj
      cases bl <;> simp [Kind, e1, e2]⟩
  have own : ∀ j b, owner G' (h.set id new) j = some b → (j ≠ id ∧ owner G h j = some b) ∨ (j = id ∧ (w.heap.size ≤ b ∨ owner G h id = some b)) := by
    intro j b ho
    by_cases hj : j = id
    · subst hj
      rw [owner_eq hsame] at ho
      exact .inr ⟨rfl, by rw [owner_eq hold]; exact hown b ho⟩
    · refine .inl ⟨hj, ?_⟩
      obtain ⟨bl, hb, hob⟩ := owner_some ho
      rw [hne j hj] at hb
      rw [owner_eq hb]
      have e1 := gblk j hj
      have e2 := gcur j hj
      cases bl <;> simp_all [ownerB]
  refine ⟨⟨?_, ?_, ?_⟩, ⟨os, tape, output, size, fun b hb hn => ?_, hH, ?_, m.kinds⟩⟩
  · intro b k v hv
    by_cases hb : b < w.heap.size ∧ ownerB G id old ≠ some b
    · rw [hHold b k hb.1 hb.2] at hv
      rw [World.cell?_of_block (w := w) (heap b hb.1 hb.2)]
      exact i.ok b k v hv
    · refine hok b k v ?_ hv
      by_cases h1 : w.heap.size ≤ b
      · exact .inl h1
      · exact .inr (Classical.byContradiction fun h2 => hb ⟨by omega, h2⟩)
  · intro j bl hb
    by_cases hj : j = id
    · subst hj; rw [hsame] at hb; cases hb; exact hnew m
    · rw [hne j hj] at hb
      refine (i.blk j bl hb).keep m (gblk j hj) (gcur j hj) fun b ho => ?_
      have h1 := (i.blk j bl hb).lt ho
      have h2 : ownerB G id old ≠ some b := fun e => hj (i.inj j id b (by rw [owner_eq hb]; exact ho) (by rw [owner_eq hold]; exact e))
      exact ⟨heap b h1 h2, fun k => hHold b k h1 h2⟩
  · intro x y b hx hy
    rcases own x b hx with ⟨hx1, h1⟩ | ⟨rfl, h1⟩ <;> rcases own y b hy with ⟨hy1, h2⟩ | ⟨rfl, h2⟩
    · exact i.inj x y b h1 h2
    · rcases h2 with h2 | h2
      · have := i.lt h1; omega
      · exact i.inj x y b h1 h2
    · rcases h1 with h1 | h1
      · have := i.lt h2; omega
      · exact i.inj x y b h1 h2
    · rfl
  · have : ownerB G id old ≠ some b := fun e => hn id (by rw [owner_eq hold]; exact e)
    exact ⟨heap b hb this, fun k => hHold b k hb this⟩
  · intro j b ho hb
    rcases own j b ho with ⟨_, h1⟩ | ⟨rfl, h1 | h1⟩
    · exact h1
    · omega
    · exact h1
end
section
open Go Go.RowKit

theorem add_plain (b off k : Nat) : Addr.add ⟨b, off, none⟩ k = ⟨b, off + k, none⟩ := by unfold Addr.add; split <;> simp_all

theorem getVec_some {h : Heap} {id tot : Nat} {x : Nat × List AVal} (hg : getVec h id tot = some x) : h[id]? = some (.vec tot x.1 x.2) := by
  unfold getVec at hg
  split at hg
  · rename_i tot' sz cs hid
    split at hg
    · rename_i he; cases hg; rw [hid, he]
    · cases hg
  · cases hg
theorem getBlk_some {h : Heap} {id : Nat} {cs : List AVal} (hg : getBlk h id = some cs) : h[id]? = some (.cells cs) := by
  unfold getBlk at hg
  split at hg <;> simp_all

section
variable {P : Program} {G : Gh} {h : Heap} {w : World} {x y v : AVal} {X Y V : Value}

theorem cell_of (w : World) (g i : Nat) {C : Array Value} {t : TypeId} {fr : Nat × Nat} (hg : w.heap[g]? = some (.cells C t fr)) : w.cell? ⟨g, i, none⟩ = C[i]? := by
  simp [World.cell?, hg]

/-- Reading a variable whose cells are known. -/
theorem run_loadVar' {t : TypeId} {g : Bool} {n : Nat} (hg : isAggT P t = some g) (hn : sizeT P t = some n) (b o : Nat) (cs : List AVal) (off : Nat) (F : Nat → Value)
    (hb : apart g n cs off = some v) (hc : ∀ (j : Nat) (u : AVal), cs[j]? = some u → off ≤ j → w.cell? ⟨b, o + (j - off), none⟩ = some (F j) ∧ RelV G h u (F j)) :
    ∃ V, (loadVar t ⟨b, o, none⟩).run P w = .ok V w ∧ RelV G h v V := by
  unfold apart at hb
  cases g with
  | true =>
    simp only [cond_true] at hb
    split at hb <;> simp only [Option.some.injEq, reduceCtorEq] at hb
    rename_i hle
    subst hb
    have hl := run_loadCells (P := P) w ⟨b, o, none⟩ n (fun j => F (off + j)) (fun j hj => by
      have hj' : cs[off + j]? = some cs[off + j] := List.getElem?_eq_getElem (by omega)
      have := (hc (off + j) _ hj' (by omega)).1
      rw [add_plain]
      rwa [show off + j - off = j by omega] at this)
    refine ⟨.agg ((List.range n).map fun j => F (off + j)).toArray, ?_, .agg _ _ ?_ ?_⟩
    · simp [loadVar, run_isAgg' hg, run_sizeOf' hn, hl, Sem.run_pure]
    · simp; omega
    · intro i u hu
      rw [List.getElem?_take] at hu
      split at hu
      · rename_i hi
        rw [List.getElem?_drop] at hu
        have := (hc (off + i) u hu (by omega)).2
        simpa [Array.getD_eq_getD_getElem?, hi] using this
      · cases hu
  | false =>
    simp only [cond_false] at hb
    obtain ⟨h1, h2⟩ := hc off v hb (Nat.le_refl _)
    refine ⟨F off, ?_, h2⟩
    rw [Nat.sub_self, Nat.add_zero] at h1
    simp [loadVar, run_isAgg' hg, run_load, h1]

theorem aload_sound {t : TypeId} {g : Bool} {n : Nat} (hg : isAggT P t = some g) (hn : sizeT P t = some n) (i : Inv G h w) (hb : aload g n h x = some v) (hx : RelV G h x X) :
    ∃ V, (Instr.loadAt t X).run P w = .ok V w ∧ RelV G h v V := by
  unfold aload at hb
  split at hb
  · rename_i cs
    have hp := hx.pptr_inv
    cases hp with
    | pptr cs b off F hH hk hV =>
      obtain ⟨V, h1, h2⟩ := run_loadVar' (P := P) (G := G) (h := h) (w := w) hg hn b off cs 0 F hb (fun j u hu _ => ⟨i.ok _ _ _ (hH j u hu), .p _ _ (hV j u hu)⟩)
      exact ⟨V, by simp [Instr.loadAt, Instr.sureAddr, h1], h2⟩
  · rename_i id off
    split at hb
    · rename_i cs hgb
      unfold getBlk at hgb
      split at hgb <;> simp only [Option.some.injEq, reduceCtorEq] at hgb
      rename_i cs' hid
      subst hgb
      obtain ⟨rfl, _⟩ := hx.ptr_inv
      obtain ⟨C, e, h1, h2, h3, h4⟩ := i.blk id _ hid
      obtain ⟨V, r1, r2⟩ := run_loadVar' (P := P) (G := G) (h := h) (w := w) hg hn (G.blk id) off cs' off (fun j => C.getD j undef) hb (fun j u hu hj => by
        have hlt : j < C.size := by rw [h2]; exact (List.getElem?_eq_some_iff.1 hu).1
        refine ⟨?_, (h4 j u hu).2⟩
        rw [cell_of w _ _ h1, show off + (j - off) = j by omega, Array.getElem?_eq_getElem hlt]
        simp [Array.getD_eq_getD_getElem?, hlt])
      exact ⟨V, by simp [Instr.loadAt, Instr.sureAddr, r1], r2⟩
    · cases hb
  · rename_i id tot off
    split at hb
    · rename_i x hgb
      have hid := getVec_some hgb
      obtain ⟨tot, hX, h1, h2, h3⟩ := hx.vptr_inv
      obtain ⟨b, cap, C, e, g1, g2, g3, g4, g5, g6, g7, g8, g9⟩ := i.blk id _ hid
      obtain ⟨cap0, h4⟩ := h3 (by rw [g1]; rfl)
      rw [g1] at h4
      simp only [Value.slice.injEq, Option.some.injEq, Addr.mk.injEq] at h4
      obtain ⟨⟨rfl, _⟩, _, rfl⟩ := h4
      subst hX
      obtain ⟨V, r1, r2⟩ := run_loadVar' (P := P) (G := G) (h := h) (w := w) hg hn b off x.2 off (fun j => C.getD j undef) hb (fun j u hu hj => by
        have hlt : j < C.size := by
          have := (List.getElem?_eq_some_iff.1 hu).1
          rw [g5]
          exact Nat.lt_of_lt_of_le (by rw [g7] at this; exact this) (Nat.mul_le_mul_right _ g3)
        refine ⟨?_, (g9 j u hu).2⟩
        rw [cell_of w _ _ g2, show off + (j - off) = j by omega, Array.getElem?_eq_getElem hlt]
        simp [Array.getD_eq_getD_getElem?, hlt])
      exact ⟨V, by simp [Instr.loadAt, Instr.sureAddr, r1], r2⟩
    · cases hb
  · cases hb

/-! ### Storing -/

theorem length_putCells (cs vs : List AVal) (off : Nat) (h : off + vs.length ≤ cs.length) : (putCells cs off vs).length = cs.length := by
  simp [putCells]; omega

theorem getElem?_putCells (cs vs : List AVal) (off i : Nat) (h : off + vs.length ≤ cs.length) :
    (putCells cs off vs)[i]? = if i < off then cs[i]? else if i < off + vs.length then vs[i - off]? else cs[i]? := by
  unfold putCells
  by_cases h1 : i < off
  · rw [if_pos h1, List.append_assoc, List.getElem?_append_left (by simp; omega), List.getElem?_take, if_pos h1]
  · rw [if_neg h1, List.append_assoc, List.getElem?_append_right (by simp; omega)]
    simp only [List.length_take]
    rw [Nat.min_eq_left (by omega)]
    by_cases h2 : i < off + vs.length
    · rw [if_pos h2, List.getElem?_append_left (by omega)]
    · rw [if_neg h2, List.getElem?_append_right (by omega), List.getElem?_drop]
      congr 1; omega

theorem getElem?_putRow (C : Array Value) (U : List Value) (off i : Nat) (h : off + U.length ≤ C.size) :
    (C.toList.take off ++ U ++ C.toList.drop (off + U.length)).toArray[i]? = if i < off then C[i]? else if i < off + U.length then U[i - off]? else C[i]? := by
  rw [List.getElem?_toArray]
  by_cases h1 : i < off
  · rw [if_pos h1, List.append_assoc, List.getElem?_append_left (by simp; omega), List.getElem?_take, if_pos h1, Array.getElem?_toList]
  · rw [if_neg h1, List.append_assoc, List.getElem?_append_right (by simp; omega)]
    simp only [List.length_take, Array.length_toList]
    rw [Nat.min_eq_left (by omega)]
    by_cases h2 : i < off + U.length
    · rw [if_pos h2, List.getElem?_append_left (by omega)]
    · rw [if_neg h2, List.getElem?_append_right (by omega), List.getElem?_drop, Array.getElem?_toList]
      congr 1; omega

/-- A block's cells written from a place on. -/
theorem Inv.write (i : Inv G h w) {id off : Nat} {cs vs : List AVal} {C : Array Value} {e : TypeId} {U : List Value} (hid : h[id]? = some (.cells cs))
    (hC : w.heap[G.blk id]? = some (.cells C e (0, 0))) (hle : off + vs.length ≤ cs.length) (hU : U.length = vs.length)
    (hrel : ∀ (j : Nat) (u : AVal), vs[j]? = some u → u.cellOk = true ∧ RelV G h u (U.getD j undef)) :
    Inv G (h.set id (.cells (putCells cs off vs))) (w.setRow (G.blk id) (C.toList.take off ++ U ++ C.toList.drop (off + U.length)).toArray) ∧
      Ext G h w G (h.set id (.cells (putCells cs off vs))) (w.setRow (G.blk id) (C.toList.take off ++ U ++ C.toList.drop (off + U.length)).toArray) := by
  obtain ⟨C', e', h1, h2, h3, h4⟩ := i.blk id _ hid
  rw [hC] at h1
  simp only [Option.some.injEq, Obj.cells.injEq] at h1
  obtain ⟨rfl, rfl, _⟩ := h1
  refine i.step id (.cells cs) _ hid (by simp) (by simp) (by simp) (by simp) ?_ (fun _ _ => rfl) (fun _ _ => rfl) (fun _ _ _ hh => hh) (fun _ _ _ _ => rfl) ?_ ?_ ?_ ?_
  · intro k _ hk
    exact setRow_other w _ k _ (fun e => hk (by simp [ownerB, e]))
  · intro b k v hb hv
    rcases hb with hb | hb
    · have := i.ok b k v hv
      have hlt : b < w.heap.size := by
        unfold World.cell? at this
        cases hh : w.heap[b]? with
        | none => simp [hh] at this
        | some o => exact (Array.getElem?_eq_some_iff.1 hh).1
      omega
    · simp only [ownerB, Option.some.injEq] at hb
      subst hb
      rw [h3] at hv; cases hv
  · exact ⟨(length_putCells cs vs off hle).symm, rfl, rfl⟩
  · intro m
    have hoff : off + U.length ≤ C.size := by rw [hU, h2]; exact hle
    refine ⟨_, e, setRow_heap w _ C _ e _ hC, ?_, h3, fun j u hu => ?_⟩
    · rw [length_putCells cs vs off hle]; simp; omega
    · rw [getElem?_putCells cs vs off j hle] at hu
      rw [Array.getD_eq_getD_getElem?, getElem?_putRow C U off j hoff]
      split at hu
      · rename_i hj
        rw [if_pos hj]
        exact ⟨(h4 j u hu).1, by have := (h4 j u hu).2.mono m; rwa [Array.getD_eq_getD_getElem?] at this⟩
      · rename_i hj
        rw [if_neg hj]
        split at hu
        · rename_i hj2
          rw [if_pos (by rw [hU]; exact hj2)]
          obtain ⟨a1, a2⟩ := hrel _ u hu
          refine ⟨a1, ?_⟩
          have := a2.mono m
          rwa [List.getD_eq_getElem?_getD] at this
        · rename_i hj2
          rw [if_neg (by rw [hU]; exact hj2)]
          exact ⟨(h4 j u hu).1, by have := (h4 j u hu).2.mono m; rwa [Array.getD_eq_getD_getElem?] at this⟩
  · intro b hb
    exact .inr hb

/-- The cells of a slice that is written into, written from a place on. -/
theorem Inv.writeV (i : Inv G h w) {id tot sz off b cap : Nat} {cs vs : List AVal} {C : Array Value} {e : TypeId} {U : List Value} (hid : h[id]? = some (.vec tot sz cs))
    (hcur : G.cur id = .slice (some ⟨b, 0, none⟩) tot cap) (hC : w.heap[b]? = some (.cells C e (0, 0))) (hle : off + vs.length ≤ cs.length) (hU : U.length = vs.length)
    (hrel : ∀ (j : Nat) (u : AVal), vs[j]? = some u → u.cellOk = true ∧ RelV G h u (U.getD j undef)) :
    Inv G (h.set id (.vec tot sz (putCells cs off vs))) (w.setRow b (C.toList.take off ++ U ++ C.toList.drop (off + U.length)).toArray) ∧
      Ext G h w G (h.set id (.vec tot sz (putCells cs off vs))) (w.setRow b (C.toList.take off ++ U ++ C.toList.drop (off + U.length)).toArray) := by
  obtain ⟨b', cap', C', e', g1, g2, g3, g4, g5, g6, g7, g8, g9⟩ := i.blk id _ hid
  rw [hcur] at g1
  simp only [Value.slice.injEq, Option.some.injEq, Addr.mk.injEq] at g1
  obtain ⟨⟨rfl, _⟩, _, rfl⟩ := g1
  rw [hC] at g2
  simp only [Option.some.injEq, Obj.cells.injEq] at g2
  obtain ⟨rfl, rfl, _⟩ := g2
  have hown : ownerB G id (.vec tot sz cs) = some b := by simp [ownerB, hcur, Value.ownBlock]
  have hcl : cs.length ≤ C.size := by rw [g7, g5]; exact Nat.mul_le_mul_right _ g3
  refine i.step id (.vec tot sz cs) _ hid (by simp) (by simp) (by simp) (by simp) ?_ (fun _ _ => rfl) (fun _ _ => rfl) (fun _ _ _ hh => hh) (fun _ _ _ _ => rfl) ?_ ?_ ?_ ?_
  · intro k _ hk
    exact setRow_other w _ k _ (fun e => hk (by rw [hown, e]))
  · intro b' k v hb hv
    rcases hb with hb | hb
    · have := i.ok b' k v hv
      have hlt : b' < w.heap.size := by
        unfold World.cell? at this
        cases hh : w.heap[b']? with
        | none => simp [hh] at this
        | some o => exact (Array.getElem?_eq_some_iff.1 hh).1
      omega
    · rw [hown] at hb
      cases hb
      rw [g8] at hv; cases hv
  · exact ⟨rfl, Nat.le_refl _, fun _ => rfl⟩
  · intro m
    have hoff : off + U.length ≤ C.size := by omega
    refine ⟨b, cap, _, e, hcur, setRow_heap w _ C _ e _ hC, g3, g4, by simp; omega, g6, by rw [length_putCells cs vs off hle]; exact g7, g8, fun j u hu => ?_⟩
    rw [getElem?_putCells cs vs off j hle] at hu
    rw [Array.getD_eq_getD_getElem?, getElem?_putRow C U off j hoff]
    split at hu
    · rename_i hj
      rw [if_pos hj]
      exact ⟨(g9 j u hu).1, by have := (g9 j u hu).2.mono m; rwa [Array.getD_eq_getD_getElem?] at this⟩
    · rename_i hj
      rw [if_neg hj]
      split at hu
      · rename_i hj2
        rw [if_pos (by rw [hU]; exact hj2)]
        obtain ⟨a1, a2⟩ := hrel _ u hu
        refine ⟨a1, ?_⟩
        have := a2.mono m
        rwa [List.getD_eq_getElem?_getD] at this
      · rename_i hj2
        rw [if_neg (by rw [hU]; exact hj2)]
        exact ⟨(g9 j u hu).1, by have := (g9 j u hu).2.mono m; rwa [Array.getD_eq_getD_getElem?] at this⟩
  · intro b' hb
    exact .inr (by rw [hown]; simpa [ownerB, hcur, Value.ownBlock] using hb)

theorem keep1_spec {o v u : AVal} (hu : keep1 h o v = u) : u = v ∨ (v = .slice [] .nil ∧ ∃ id, u = .slice [] (.own id) ∧ h[id]? = some (.front 0 0)) := by
  unfold keep1 at hu
  cases hn : v.isNil with
  | false => rw [hn] at hu; exact .inl hu.symm
  | true =>
    rw [hn] at hu
    simp only [cond_true] at hu
    have hv : v = .slice [] .nil := by
      unfold AVal.isNil at hn
      split at hn
      · rfl
      · cases hn
    split at hu
    · rename_i id
      split at hu
      · rename_i hf; exact .inr ⟨hv, id, hu.symm, hf⟩
      · exact .inl hu.symm
    · exact .inl hu.symm
theorem keepTok_length : ∀ {os vs : List AVal}, (keepTok h os vs).length = vs.length
  | [], _ => by simp [keepTok]
  | _ :: _, [] => by simp [keepTok]
  | _ :: os, _ :: vs => by simp [keepTok, keepTok_length (os := os) (vs := vs)]
theorem keepTok_get : ∀ {os vs : List AVal} {j : Nat} {u : AVal}, (keepTok h os vs)[j]? = some u → ∃ v, vs[j]? = some v ∧ (u = v ∨ (v = .slice [] .nil ∧ ∃ id, u = .slice [] (.own id) ∧ h[id]? = some (.front 0 0)))
  | [], vs, j, u, hu => ⟨u, by simpa [keepTok] using hu, .inl rfl⟩
  | _ :: _, [], j, u, hu => by simp [keepTok] at hu
  | o :: os, v :: vs, 0, u, hu => by
    simp only [keepTok, List.getElem?_cons_zero, Option.some.injEq] at hu
    exact ⟨v, rfl, keep1_spec hu⟩
  | o :: os, v :: vs, j + 1, u, hu => by
    simp only [keepTok, List.getElem?_cons_succ] at hu
    obtain ⟨v', h1, h2⟩ := keepTok_get hu
    exact ⟨v', by simpa using h1, h2⟩
theorem keep_rel (i : Inv G h w) {u v : AVal} {V : Value} (hk : u = v ∨ (v = .slice [] .nil ∧ ∃ id, u = .slice [] (.own id) ∧ h[id]? = some (.front 0 0))) (hc : v.cellOk = true) (hr : RelV G h v V) : u.cellOk = true ∧ RelV G h u V := by
  rcases hk with rfl | ⟨rfl, id, rfl, hf⟩
  · exact ⟨hc, hr⟩
  · have hb := i.blk id _ hf
    have hV : V = .slice none 0 0 := by
      cases hr with
      | p _ _ hp => cases hp
      | nil => rfl
    have hcur : G.cur id = .slice none 0 0 := by
      rcases hb with ⟨_, h1⟩ | ⟨b, cap, C, e, h1, h2, h3, h4, h5, h6, _⟩
      · exact h1
      · omega
    subst hV
    exact ⟨rfl, .own [] id 0 0 _ (.slice0 none 0) hf (Nat.le_refl _) (by simp) fun _ => hcur.symm⟩

theorem astore_sound {t : TypeId} {n : Nat} {h' : Heap} (hn : sizeT P t = some n) (i : Inv G h w) (hb : astore n h x y = some h') (hx : RelV G h x X) (hy : RelV G h y Y) :
    ∃ w', (Instr.storeAt t X Y).run P w = .ok () w' ∧ Inv G h' w' ∧ Ext G h w G h' w' := by
  unfold astore at hb
  split at hb
  · rename_i id off
    cases hgb : getBlk h id with
    | none => simp [hgb] at hb
    | some cs' =>
      have hid := getBlk_some hgb
      simp only [hgb] at hb
      -- the cells that are stored
      obtain ⟨z, hz, hzr⟩ : ∃ z : AVal, y.cells = z.cells ∧ RelV G h z Y := ⟨_, rfl, hy⟩
      rw [hz] at hb
      split at hb
      case isFalse => cases hb
      rename_i hcond
      obtain ⟨hlen, hle, hall⟩ := hcond
      injection hb with hb
      subst hb
      obtain ⟨rfl, _⟩ := hx.ptr_inv
      obtain ⟨C, e, h1, h2, h3, h4⟩ := i.blk id _ hid
      obtain ⟨c1, c2⟩ := agg_cells hzr hall
      have hU : Y.cells.toList.length = z.cells.length := by rw [Array.length_toList, c1]
      have h1c : ∀ u ∈ Y.cells.toList, u.oneCell' = true := by
        intro u hu
        obtain ⟨j, hj⟩ := List.getElem?_of_mem hu
        have hjl : j < z.cells.length := by rw [← hU]; exact (List.getElem?_eq_some_iff.1 hj).1
        obtain ⟨a1, a2⟩ := c2 j _ (List.getElem?_eq_getElem hjl)
        have hval : Y.cells.getD j undef = u := by rw [Array.getD_eq_getD_getElem?, ← Array.getElem?_toList, hj]; rfl
        rw [hval] at a2
        exact (a2.oneCell a1).1
      have hst := run_storeCells_at P (G.blk id) off e Y.cells.toList 0 C w h1 (by rw [Array.length_toList, h2]; omega) h1c
      simp only [Nat.add_zero] at hst
      have hw := i.write (off := off) (vs := keepTok h (cs'.drop off) z.cells) (U := Y.cells.toList) hid h1 (by rw [keepTok_length]; omega) (by rw [keepTok_length]; exact hU) (fun j u hu => by
        obtain ⟨v, hv, hk⟩ := keepTok_get hu
        obtain ⟨a1, a2⟩ := c2 j v hv
        rw [List.getD_eq_getElem?_getD, Array.getElem?_toList]
        rw [Array.getD_eq_getD_getElem?] at a2
        exact keep_rel i hk a1 a2)
      refine ⟨_, ?_, hw⟩
      have hsz : Y.cells.size = n := by omega
      simp [Instr.storeAt, Instr.sureAddr, storeVar, run_sizeOf' hn, hsz, hst]
  · rename_i id tot off
    cases hgb : getVec h id tot with
    | none => simp [hgb] at hb
    | some x0 =>
      have hid := getVec_some hgb
      simp only [hgb] at hb
      obtain ⟨z, hz, hzr⟩ : ∃ z : AVal, y.cells = z.cells ∧ RelV G h z Y := ⟨_, rfl, hy⟩
      rw [hz] at hb
      split at hb
      case isFalse => cases hb
      rename_i hcond
      obtain ⟨hlen, hle, hall⟩ := hcond
      injection hb with hb
      subst hb
      obtain ⟨b, hX, _, _, h3⟩ := hx.vptr_inv
      obtain ⟨b', cap, C, e, g1, g2, g3, g4, g5, g6, g7, g8, g9⟩ := i.blk id _ hid
      obtain ⟨cap0, h4⟩ := h3 (by rw [g1]; rfl)
      have h4' := h4
      rw [g1] at h4
      simp only [Value.slice.injEq, Option.some.injEq, Addr.mk.injEq] at h4
      obtain ⟨⟨rfl, _⟩, _, rfl⟩ := h4
      subst hX
      obtain ⟨c1, c2⟩ := agg_cells hzr hall
      have hU : Y.cells.toList.length = z.cells.length := by rw [Array.length_toList, c1]
      have h1c : ∀ u ∈ Y.cells.toList, u.oneCell' = true := by
        intro u hu
        obtain ⟨j, hj⟩ := List.getElem?_of_mem hu
        have hjl : j < z.cells.length := by rw [← hU]; exact (List.getElem?_eq_some_iff.1 hj).1
        obtain ⟨a1, a2⟩ := c2 j _ (List.getElem?_eq_getElem hjl)
        have hval : Y.cells.getD j undef = u := by rw [Array.getD_eq_getD_getElem?, ← Array.getElem?_toList, hj]; rfl
        rw [hval] at a2
        exact (a2.oneCell a1).1
      have hcl : x0.2.length ≤ C.size := by rw [g7, g5]; exact Nat.mul_le_mul_right _ g3
      have hst := run_storeCells_at P b' off e Y.cells.toList 0 C w g2 (by rw [Array.length_toList]; omega) h1c
      simp only [Nat.add_zero] at hst
      have hw := i.writeV (off := off) (vs := z.cells) (U := Y.cells.toList) hid h4' g2 (by omega) hU (fun j u hu => by
        obtain ⟨a1, a2⟩ := c2 j u hu
        rw [List.getD_eq_getElem?_getD, Array.getElem?_toList]
        rw [Array.getD_eq_getD_getElem?] at a2
        exact ⟨a1, a2⟩)
      refine ⟨_, ?_, hw⟩
      have hsz : Y.cells.size = n := by omega
      simp [Instr.storeAt, Instr.sureAddr, storeVar, run_sizeOf' hn, hsz, hst]
  · cases hb

end
end
section
open Go Go.RowKit

theorem Inv.H_lt {G : Gh} {h : Heap} {w : World} (i : Inv G h w) {b k : Nat} {v : Value} (hv : G.H b k = some v) : b < w.heap.size := by
  have := i.ok b k v hv
  unfold World.cell? at this
  cases hh : w.heap[b]? with
  | none => simp [hh] at this
  | some o => exact (Array.getElem?_eq_some_iff.1 hh).1
theorem Inv.H_none {G : Gh} {h : Heap} {w : World} (i : Inv G h w) {b k : Nat} (hb : w.heap.size ≤ b) : G.H b k = none := by
  cases hv : G.H b k with
  | none => rfl
  | some v => have := i.H_lt hv; omega

theorem tokCells_spec : ∀ (vs : List AVal) (k : Nat), (tokCells k vs).1.length = vs.length ∧ (∀ (j : Nat) (b : ABlk), (tokCells k vs).2[j]? = some b → b = .front 0 0) ∧
    ∀ (j : Nat) (c : AVal), (tokCells k vs).1[j]? = some c → vs[j]? = some c ∨ (vs[j]? = some (.slice [] .nil) ∧ ∃ id, k ≤ id ∧ c = .slice [] (.own id) ∧ (tokCells k vs).2[id - k]? = some (.front 0 0))
  | [], k => by simp [tokCells]
  | v :: r, k => by
    by_cases hv : v = .slice [] .nil
    · subst hv
      obtain ⟨h1, h2, h3⟩ := tokCells_spec r (k + 1)
      simp only [tokCells]
      refine ⟨by simp [h1], ?_, ?_⟩
      · intro j b hb
        cases j with
        | zero => simp at hb; exact hb.symm
        | succ j => exact h2 j b (by simpa using hb)
      · intro j c hc
        cases j with
        | zero => simp at hc; subst hc; exact .inr ⟨rfl, k, Nat.le_refl _, rfl, by simp⟩
        | succ j =>
          rcases h3 j c (by simpa using hc) with h4 | ⟨h4, id, h5, h6, h7⟩
          · exact .inl (by simpa using h4)
          · refine .inr ⟨by simpa using h4, id, by omega, h6, ?_⟩
            rw [show id - k = (id - (k + 1)) + 1 by omega]
            simpa using h7
    · have he : tokCells k (v :: r) = (v :: (tokCells k r).1, (tokCells k r).2) := by
        rw [tokCells]
        exact hv
      obtain ⟨h1, h2, h3⟩ := tokCells_spec r k
      rw [he]
      refine ⟨by simp [h1], h2, ?_⟩
      intro j c hc
      cases j with
      | zero => simp at hc; subst hc; exact .inl rfl
      | succ j =>
        rcases h3 j c (by simpa using hc) with h4 | ⟨h4, h5⟩
        · exact .inl (by simpa using h4)
        · exact .inr ⟨by simpa using h4, h5⟩

section
variable {P : Program} {G : Gh} {h : Heap} {w : World} {x y v : AVal} {X Y V : Value}

theorem RelV.nil_inv (r : RelV G h (.slice [] .nil) V) : V = .slice none 0 0 := by
  cases r with
  | p _ _ hp => cases hp
  | nil => rfl

def Gh.add (G : Gh) (n b : Nat) : Gh := { G with blk := fun i => if i = n then b else G.blk i, cur := fun i => if n < i then .slice none 0 0 else G.cur i }

theorem heap_alloc_lt (w : World) (o : Obj) (k : Nat) (hk : k < w.heap.size) : (w.alloc o).heap[k]? = w.heap[k]? := Below.heap_alloc w o k hk

/-- A new block of cells (and the tokens of its nil slices). -/
theorem Inv.new (i : Inv G h w) {n : Nat} {v p : AVal} {h' : Heap} {Z : Value} (t : TypeId) (hb : anew n h v = some (p, h')) (hr : RelV G h v Z) :
    ∃ G', Inv G' h' (w.alloc (.cells Z.cells t)) ∧ Ext G h w G' h' (w.alloc (.cells Z.cells t)) ∧ RelV G' h' p (.pointer (some ⟨w.heap.size, 0, none⟩)) ∧ Z.cells.size = n := by
  unfold anew at hb
  simp only [] at hb
  split at hb
  case isFalse => cases hb
  rename_i hcond
  obtain ⟨hlen, hall⟩ := hcond
  simp only [Option.some.injEq, Prod.mk.injEq] at hb
  obtain ⟨rfl, rfl⟩ := hb
  obtain ⟨c1, c2⟩ := agg_cells hr hall
  obtain ⟨t1, t2, t3⟩ := tokCells_spec v.cells (h.length + 1)
  have hsz : Z.cells.size = n := by omega
  refine ⟨G.add h.length w.heap.size, ?_⟩
  have key := i.push (G' := G.add h.length w.heap.size) (ext := .cells (tokCells (h.length + 1) v.cells).1 :: (tokCells (h.length + 1) v.cells).2) (w' := w.alloc (.cells Z.cells t))
    rfl rfl rfl (by simp) (fun k hk => heap_alloc_lt w _ k hk) (fun id hid => by simp [Gh.add]; omega) (fun id hid => by simp [Gh.add]; omega) (fun _ _ _ hh => hh) (fun _ _ _ => rfl)
    (fun b k v hb hv => by have := i.H_lt (b := b) (k := k) (v := v) hv; omega)
    (fun j bl hj m => by
      cases j with
      | zero =>
        simp at hj; subst hj
        refine ⟨Z.cells, t, by simp only [Gh.add, Nat.add_zero, if_true]; exact heap_alloc_new w _, by omega, fun k => by simp only [Gh.add, Nat.add_zero, if_true]; exact i.H_none (Nat.le_refl _), fun j u hu => ?_⟩
        rcases t3 j u hu with h4 | ⟨h4, id, h5, h6, h7⟩
        · exact ⟨(c2 j u h4).1, (c2 j u h4).2.mono m⟩
        · subst h6
          obtain ⟨_, hz⟩ := c2 j _ h4
          have hz := hz.nil_inv
          refine ⟨rfl, ?_⟩
          rw [hz]
          refine .own (t := 0) [] id 0 0 _ (.slice0 none 0) ?_ (Nat.le_refl _) (by simp) (fun _ => by simp only [Gh.add]; rw [if_pos (by omega)])
          rw [List.getElem?_append_right (by omega), show id - h.length = (id - (h.length + 1)) + 1 by omega]
          simpa using h7
      | succ j =>
        have hj' := t2 j bl (by simpa using hj)
        subst hj'
        exact .inl ⟨rfl, by simp only [Gh.add]; rw [if_pos (by omega)]⟩)
    (fun j bl b hj ho => by
      cases j with
      | zero => simp at hj; subst hj; simp only [ownerB, Gh.add, Nat.add_zero, if_true, Option.some.injEq] at ho; omega
      | succ j =>
        have hj' := t2 j bl (by simpa using hj)
        subst hj'
        simp only [ownerB, Gh.add] at ho
        rw [if_pos (by omega)] at ho
        cases ho)
    (fun j j' bl bl' b hj hj' ho ho' => by
      have : ∀ j bl, (ABlk.cells (tokCells (h.length + 1) v.cells).1 :: (tokCells (h.length + 1) v.cells).2)[j]? = some bl → ownerB (G.add h.length w.heap.size) (h.length + j) bl = some b → j = 0 := by
        intro j bl hj ho
        cases j with
        | zero => rfl
        | succ j =>
          have hj' := t2 j bl (by simpa using hj)
          subst hj'
          simp only [ownerB, Gh.add] at ho
          rw [if_pos (by omega)] at ho
          cases ho
      rw [this j bl hj ho, this j' bl' hj' ho'])
  refine ⟨key.1, key.2, ?_, hsz⟩
  have hp := RelV.ptr (G := G.add h.length w.heap.size) (h := h ++ .cells (tokCells (h.length + 1) v.cells).1 :: (tokCells (h.length + 1) v.cells).2) h.length 0
    ⟨.cells (tokCells (h.length + 1) v.cells).1, by simp, by simp⟩
  simpa [Gh.add] using hp

theorem abox_sound {t : TypeId} {n : Nat} {p : AVal} {h' : Heap} (i : Inv G h w) (hb : anew n h x = some (p, h')) (hx : RelV G h x X) :
    ∃ V w' G', (Instr.box t X).run P w = .ok V w' ∧ Inv G' h' w' ∧ Ext G h w G' h' w' ∧ RelV G' h' p V := by
  obtain ⟨G', h1, h2, h3, _⟩ := i.new t hb hx
  exact ⟨_, _, G', by simp [Instr.box, newVar, newRow, Sem.run_pure], h1, h2, h3⟩

theorem run_zeroValue' {t : TypeId} {z : AVal} (hz : zeroT P t = some z) : ∃ Z, (zeroValue t).run P w = .ok Z w ∧ RelV G h z Z := by
  unfold zeroT at hz
  cases hi : P.info? t with
  | none => simp [hi] at hz
  | some ti =>
    cases hzz : ti.zero with
    | none => simp [hi, hzz] at hz
    | some Z =>
      simp [hi, hzz] at hz; subst hz
      exact ⟨Z, by simp [zeroValue, Go.typeInfo, hi, hzz, Sem.run_pure], relV_ofConst G h Z⟩

theorem aalloc_sound {t : TypeId} {n : Nat} {z p : AVal} {h' : Heap} (i : Inv G h w) (hz : zeroT P t = some z) (hb : anew n h z = some (p, h')) :
    ∃ V w' G', (Instr.alloc t true (.tuple #[])).run P w = .ok V w' ∧ Inv G' h' w' ∧ Ext G h w G' h' w' ∧ RelV G' h' p V := by
  obtain ⟨Z, hz1, hz2⟩ := run_zeroValue' (P := P) (G := G) (h := h) (w := w) hz
  obtain ⟨G', h1, h2, h3, _⟩ := i.new t hb hz2
  refine ⟨_, _, G', ?_, h1, h2, h3⟩
  simp [Instr.alloc, hz1, newVar, newRow, Sem.run_pure]

end
end
section
open Go Go.RowKit

/-- Values set one behind the other from a place on. -/
theorem foldl_put (off : Nat) : ∀ (us : List Value) (k : Nat) (C : Array Value), off + k + us.length ≤ C.size →
    ((us.zipIdx k).foldl (fun (cs : Array Value) p => cs.setIfInBounds (off + p.2) p.1) C) = (C.toList.take (off + k) ++ us ++ C.toList.drop (off + k + us.length)).toArray
  | [], k, C, _ => by simp
  | u :: us, k, C, hl => by
    simp only [List.zipIdx_cons, List.foldl_cons]
    rw [foldl_put off us (k + 1) (C.setIfInBounds (off + k) u) (by simp at hl ⊢; omega)]
    congr 1
    have e := list_seg_step C.toList (off + k) u us (by simp at hl ⊢; omega)
    simpa [Array.toList_setIfInBounds, Nat.add_assoc] using e

section
variable {P : Program} {G : Gh} {h : Heap} {w : World} {x y v : AVal} {X Y V : Value}

theorem cells_rel (hj : x.isJunk = false) (hx : RelV G h x X) : x.cells.length = X.cells.size ∧ ∀ (i : Nat) (u : AVal), x.cells[i]? = some u → RelV G h u (X.cells.getD i undef) := by
  by_cases ha : ∃ cs, x = .agg cs
  · obtain ⟨cs, rfl⟩ := ha
    obtain ⟨C, rfl, hl, hr⟩ := hx.agg_inv
    exact ⟨hl, hr⟩
  · have hc : x.cells = [x] := by cases x <;> simp_all [AVal.cells]
    have hX : X.cells = #[X] := by
      cases hx with
      | p _ _ hp => cases hp <;> simp_all [AVal.isJunk, Value.cells]
      | own _ _ _ _ _ hp => cases hp <;> simp [Value.cells]
      | ownv _ _ hp => cases hp <;> simp [Value.cells]
      | _ => simp_all [Value.cells]
    rw [hc, hX]
    refine ⟨rfl, fun i u hu => ?_⟩
    cases i with
    | zero => simp at hu; subst hu; simpa using hx
    | succ i => simp at hu

/-- Cells and the model's cells. -/
def RelC (G : Gh) (h : Heap) (cs : List AVal) (C : Array Value) : Prop := cs.length = C.size ∧ ∀ (i : Nat) (u : AVal), cs[i]? = some u → RelV G h u (C.getD i undef)

theorem RelC.put {cs vs : List AVal} {C : Array Value} {U : List Value} {off : Nat} (hc : RelC G h cs C) (hle : off + vs.length ≤ cs.length) (hU : U.length = vs.length)
    (hr : ∀ (j : Nat) (u : AVal), vs[j]? = some u → RelV G h u (U.getD j undef)) : RelC G h (putCells cs off vs) (C.toList.take off ++ U ++ C.toList.drop (off + U.length)).toArray := by
  obtain ⟨h1, h2⟩ := hc
  have hoff : off + U.length ≤ C.size := by omega
  refine ⟨by rw [length_putCells cs vs off hle]; simp; omega, fun j u hu => ?_⟩
  rw [getElem?_putCells cs vs off j hle] at hu
  rw [Array.getD_eq_getD_getElem?, getElem?_putRow C U off j hoff]
  split at hu
  · rename_i hj; rw [if_pos hj]; have := h2 j u hu; rwa [Array.getD_eq_getD_getElem?] at this
  · rename_i hj
    rw [if_neg hj]
    split at hu
    · rename_i hj2; rw [if_pos (by omega)]; have := hr _ u hu; rwa [List.getD_eq_getElem?_getD] at this
    · rename_i hj2; rw [if_neg (by omega)]; have := h2 j u hu; rwa [Array.getD_eq_getD_getElem?] at this

/-- Filling cells. -/
theorem fill_sound (place : Nat → Option (Nat × Nat)) (places : List (Nat × Nat)) (hp : ∀ i p, places[i]? = some p → place i = some p) :
    ∀ (parts : List (Nat × AVal)) (PS : List (Nat × Value)) (zero : List AVal) (Z : Array Value) (r : AVal), RelC G h zero Z →
      (parts.map (·.1) = PS.map (·.1)) → (∀ (j : Nat) a b, parts[j]? = some a → PS[j]? = some b → RelV G h a.2 b.2) → abuild zero places parts = some r →
      ∃ C cs, Instr.fill place Z PS = some C ∧ r = .agg cs ∧ RelC G h cs C
  | [], PS, zero, Z, r, hz, hm, _, hb => by
    have : PS = [] := by simpa using hm.symm
    subst this
    simp only [abuild, Option.some.injEq] at hb; subst hb
    exact ⟨Z, zero, rfl, rfl, hz⟩
  | (i, u) :: rest, [], zero, Z, r, _, hm, _, _ => by simp at hm
  | (i, u) :: rest, (i', U) :: PS, zero, Z, r, hz, hm, hr, hb => by
    simp only [List.map_cons, List.cons.injEq] at hm
    obtain ⟨rfl, hm⟩ := hm
    simp only [abuild] at hb
    split at hb
    · rename_i off n hpl
      split at hb
      case isFalse => cases hb
      rename_i hcond
      obtain ⟨hj, hn, hle⟩ := hcond
      have hU : RelV G h u U := hr 0 (i, u) (i, U) rfl rfl
      obtain ⟨c1, c2⟩ := cells_rel hj hU
      subst hn
      have hpl' := hp i _ hpl
      have hput := hz.put (U := U.cells.toList) hle (by simpa using c1.symm) (fun j a ha => by
        have := c2 j a ha
        rw [List.getD_eq_getElem?_getD, Array.getElem?_toList]
        rwa [Array.getD_eq_getD_getElem?] at this)
      obtain ⟨C, cs, e1, e2, e3⟩ := fill_sound place places hp rest PS _ _ r hput hm (fun j a b ha hb => hr (j + 1) a b (by simpa using ha) (by simpa using hb)) hb
      refine ⟨C, cs, ?_, e2, e3⟩
      have hzl : zero.length = Z.size := hz.1
      have hfold := foldl_put off U.cells.toList 0 Z (by rw [Array.length_toList]; omega)
      simp only [Nat.add_zero] at hfold
      have hsz : U.cells.size = u.cells.length := c1.symm
      simp only [Instr.fill, hpl', hsz, ne_eq, not_true_eq_false, false_or]
      rw [if_neg (by simp; omega)]
      rw [← Array.foldl_toList, Array.toList_zipIdx, hfold]
      exact e1
    · cases hb

theorem abuild_struct {t : TypeId} {fs : Array Field} {z r : AVal} {places : List (Nat × Nat)} {parts : Array (Nat × Operand)} {f : Operand → AVal} {F : Operand → Value}
    (ht : P.underlying t = some (.struct fs)) (hz : zeroT P t = some z) (hp : fs.toList.mapM (fun f => (sizeT P f.type).map fun n => (f.offset, n)) = some places) (hf : ∀ o, RelV G h (f o) (F o))
    (hzj : z.isJunk = false) (hb : abuild z.cells places (parts.toList.map fun p => (p.1, f p.2)) = some r) :
    ∃ V, (Instr.build t (parts.map fun (i, x) => (i, F x))).run P w = .ok V w ∧ RelV G h r V := by
  obtain ⟨Z, hz1, hz2⟩ := run_zeroValue' (P := P) (G := G) (h := h) (w := w) hz
  have hmap : ∀ (l : List Field) (ps : List (Nat × Nat)), l.mapM (fun f => (sizeT P f.type).map fun n => (f.offset, n)) = some ps →
      (l.mapM (fun f => (Prod.mk f.offset <$> Go.sizeOf f.type : Sem (Nat × Nat)))).run P w = .ok ps w := by
    intro l
    induction l with
    | nil => intro ps hps; simp at hps; subst hps; simp [Sem.run_pure]
    | cons f l ih =>
      intro ps hps
      simp only [List.mapM_cons, Option.bind_eq_bind, Option.bind_eq_some_iff] at hps
      obtain ⟨a, ha, bs, hbs, hps⟩ := hps
      cases hs : sizeT P f.type with
      | none => simp [hs] at ha
      | some n =>
        simp [hs] at ha; subst ha
        simp only [Option.pure_def, Option.some.injEq] at hps; subst hps
        simp only [List.mapM_cons, map_eq_pure_bind] at ih ⊢
        simp only [Sem.run_bind, run_sizeOf' hs, Sem.run_pure, Result.andThen_ok, ih bs hbs]
  have hmapA : (fs.mapM (fun f => (Prod.mk f.offset <$> Go.sizeOf f.type : Sem (Nat × Nat)))).run P w = .ok places.toArray w := by
    rw [Array.mapM_eq_mapM_toList]
    have := hmap fs.toList places hp
    simp only [map_eq_pure_bind] at this
    simp only [map_eq_pure_bind, Sem.run_bind, this, Result.andThen_ok, Sem.run_pure]
  obtain ⟨C, cs, e1, rfl, e3⟩ := fill_sound (G := G) (h := h) (fun i => places.toArray[i]?) places (by simp) _ (parts.toList.map fun p => (p.1, F p.2)) z.cells Z.cells r (cells_rel hzj hz2)
    (by simp) (fun j a b ha hb => by
      simp only [List.getElem?_map, Option.map_eq_some_iff] at ha hb
      obtain ⟨p, hp1, rfl⟩ := ha
      obtain ⟨q, hq1, rfl⟩ := hb
      rw [hp1] at hq1; cases hq1
      exact hf _) hb
  refine ⟨.agg C, ?_, .agg _ _ e3.1 e3.2⟩
  simp only [List.getElem?_toArray] at e1
  simp [Instr.build, hz1, run_underlying ht, hmapA, e1, Sem.run_pure]

theorem abuild_array {t e : TypeId} {len n : Nat} {z r : AVal} {parts : Array (Nat × Operand)} {f : Operand → AVal} {F : Operand → Value}
    (ht : P.underlying t = some (.array len e)) (hz : zeroT P t = some z) (hn : sizeT P e = some n) (hf : ∀ o, RelV G h (f o) (F o))
    (hzj : z.isJunk = false) (hb : abuild z.cells ((List.range len).map fun i => (i * n, n)) (parts.toList.map fun p => (p.1, f p.2)) = some r) :
    ∃ V, (Instr.build t (parts.map fun (i, x) => (i, F x))).run P w = .ok V w ∧ RelV G h r V := by
  obtain ⟨Z, hz1, hz2⟩ := run_zeroValue' (P := P) (G := G) (h := h) (w := w) hz
  obtain ⟨C, cs, e1, rfl, e3⟩ := fill_sound (G := G) (h := h) (fun i => some (i * n, n)) ((List.range len).map fun i => (i * n, n)) (fun i p hp => by
      simp only [List.getElem?_map, Option.map_eq_some_iff] at hp
      obtain ⟨a, ha, rfl⟩ := hp
      have := (List.getElem?_eq_some_iff.1 ha).2
      simp at this; rw [this]) _ (parts.toList.map fun p => (p.1, F p.2)) z.cells Z.cells r (cells_rel hzj hz2)
    (by simp) (fun j a b ha hb => by
      simp only [List.getElem?_map, Option.map_eq_some_iff] at ha hb
      obtain ⟨p, hp1, rfl⟩ := ha
      obtain ⟨q, hq1, rfl⟩ := hb
      rw [hp1] at hq1; cases hq1
      exact hf _) hb
  refine ⟨.agg C, ?_, .agg _ _ e3.1 e3.2⟩
  simp [Instr.build, hz1, run_underlying ht, run_sizeOf' hn, e1, Sem.run_pure]

theorem pure1_rel {c c' : AVal} {V : Value} (hp : c.pure1 = some c') (hr : RelV G h c V) : RelP G.H c' V ∧ c'.cellOk = true := by
  unfold AVal.pure1 at hp
  split at hp <;> simp only [Option.some.injEq, reduceCtorEq] at hp <;> subst hp
  all_goals first
    | exact ⟨hr.slice_inv, rfl⟩
    | (refine ⟨?_, rfl⟩; cases hr with | p _ _ h => exact h)
    | (refine ⟨?_, rfl⟩
       cases hr with
       | p _ _ h => exact h
       | func f first cap F C hlf hlc hf hc =>
         have h1 : F = #[] := Array.eq_empty_of_size_eq_zero hlf.symm
         have h2 : C = #[] := Array.eq_empty_of_size_eq_zero hlc.symm
         subst h1; subst h2; exact .func _)

theorem pureRow_spec : ∀ {cs row : List AVal}, pureRow cs = some row → row.length = cs.length ∧ ∀ (j : Nat) (c : AVal), cs[j]? = some c → ∃ c', row[j]? = some c' ∧ c.pure1 = some c'
  | [], row, hp => by simp only [pureRow, Option.some.injEq] at hp; subst hp; simp
  | v :: r, row, hp => by
    simp only [pureRow] at hp
    split at hp <;> simp only [Option.some.injEq, reduceCtorEq] at hp
    rename_i a b ha hb
    subst hp
    obtain ⟨h1, h2⟩ := pureRow_spec hb
    refine ⟨by simp [h1], fun j c hc => ?_⟩
    cases j with
    | zero => simp at hc; subst hc; exact ⟨a, rfl, ha⟩
    | succ j => obtain ⟨c', e1, e2⟩ := h2 j c (by simpa using hc); exact ⟨c', by simpa using e1, e2⟩

theorem rowsOf_spec : ∀ (n sz : Nat) (cs : List AVal), n * sz ≤ cs.length → (rowsOf n sz cs).length = n ∧ (∀ r ∈ rowsOf n sz cs, r.length = sz) ∧
    ∀ (i j : Nat) (row : List AVal) (c : AVal), (rowsOf n sz cs)[i]? = some row → row[j]? = some c → cs[i * sz + j]? = some c
  | 0, sz, cs, _ => by simp [rowsOf]
  | n + 1, sz, cs, hl => by
    have hl' : n * sz ≤ (cs.drop sz).length := by rw [List.length_drop]; rw [Nat.add_mul] at hl; omega
    obtain ⟨h1, h2, h3⟩ := rowsOf_spec n sz (cs.drop sz) hl'
    simp only [rowsOf]
    have hsz : (cs.take sz).length = sz := by rw [List.length_take]; rw [Nat.add_mul] at hl; omega
    refine ⟨by simp [h1], ?_, ?_⟩
    · intro r hr
      rcases List.mem_cons.1 hr with rfl | hr
      · exact hsz
      · exact h2 r hr
    · intro i j row c hi hj
      cases i with
      | zero =>
        simp at hi; subst hi
        rw [List.getElem?_take] at hj
        split at hj
        · simpa using hj
        · cases hj
      | succ i =>
        have := h3 i j row c (by simpa using hi) hj
        rw [List.getElem?_drop] at this
        rw [show (i + 1) * sz + j = sz + (i * sz + j) by rw [Nat.add_mul]; omega]
        exact this

/-- Cells that lie in persistent memory, seen as rows. -/
theorem relP_rows {H : Nat → Nat → Option Value} {n sz b off cap : Nat} {row : List AVal} {F : Nat → Value} (hl : n * sz ≤ row.length) (hc : n ≤ cap)
    (hH : ∀ (j : Nat) (c : AVal), row[j]? = some c → j < n * sz → H b (off + j) = some (F j) ∧ RelP H c (F j) ∧ c.cellOk = true) :
    RelP H (.slice (rowsOf n sz row) .no) (.slice (some ⟨b, off, none⟩) n cap) := by
  obtain ⟨h1, h2, h3⟩ := rowsOf_spec n sz row hl
  have hb : ∀ (i j : Nat) (r : List AVal) (c : AVal), (rowsOf n sz row)[i]? = some r → r[j]? = some c → row[i * sz + j]? = some c ∧ i * sz + j < n * sz := by
    intro i j r c hi hj
    refine ⟨h3 i j r c hi hj, ?_⟩
    have hi' : i < n := by rw [← h1]; exact (List.getElem?_eq_some_iff.1 hi).1
    have hj' : j < sz := by rw [← h2 r (List.mem_of_getElem? hi)]; exact (List.getElem?_eq_some_iff.1 hj).1
    calc i * sz + j < i * sz + sz := by omega
      _ = (i + 1) * sz := by rw [Nat.add_mul]; omega
      _ ≤ n * sz := Nat.mul_le_mul_right _ hi'
  have := RelP.slice (H := H) (rowsOf n sz row) b off cap sz F h2 (by rw [h1]; exact hc)
    (fun i j r c hi hj => by obtain ⟨a1, a2⟩ := hb i j r c hi hj; exact (hH _ c a1 a2).1)
    (fun i j r c hi hj => by obtain ⟨a1, a2⟩ := hb i j r c hi hj; exact (hH _ c a1 a2).2.2)
    (fun i j r c hi hj => by obtain ⟨a1, a2⟩ := hb i j r c hi hj; exact (hH _ c a1 a2).2.1)
  rwa [h1] at this

end
end
section
open Go Go.RowKit

section
variable {P : Program} {G : Gh} {h : Heap} {w : World} {x y v : AVal} {X Y V : Value}

/-- The ghost with a new block that is all persistent, and a token for it. -/
def Gh.addRow (G : Gh) (n b : Nat) (C : Array Value) (V : Value) : Gh :=
  { G with H := fun c k => if c = b then C[k]? else G.H c k, cur := fun i => if i = n then V else G.cur i }

theorem Inv.newRow (i : Inv G h w) {len sz : Nat} {cs row : List AVal} {C : Array Value} (e : TypeId) (hc : RelC G h cs C) (hp : pureRow cs = some row) (hl : C.size = len * sz) (hmax : len ≤ maxLen) (hsz0 : 0 < sz) :
    ∃ G', Inv G' (h ++ [.front len sz]) (w.alloc (.cells C e)) ∧ Ext G h w G' (h ++ [.front len sz]) (w.alloc (.cells C e)) ∧
      RelV G' (h ++ [.front len sz]) (.slice (rowsOf len sz row) (.own h.length)) (.slice (some ⟨w.heap.size, 0, none⟩) len len) := by
  obtain ⟨p1, p2⟩ := pureRow_spec hp
  obtain ⟨c1, c2⟩ := hc
  have hHlt : ∀ {b k v}, G.H b k = some v → b ≠ w.heap.size := fun hv => by have := i.H_lt hv; omega
  refine ⟨G.addRow h.length w.heap.size C (.slice (some ⟨w.heap.size, 0, none⟩) len len), ?_⟩
  have hmono : ∀ b k v, G.H b k = some v → (G.addRow h.length w.heap.size C (.slice (some ⟨w.heap.size, 0, none⟩) len len)).H b k = some v := by
    intro b k v hv; simp only [Gh.addRow, if_neg (hHlt hv), hv]
  have key := i.push (G' := G.addRow h.length w.heap.size C (.slice (some ⟨w.heap.size, 0, none⟩) len len)) (ext := [.front len sz]) (w' := w.alloc (.cells C e))
    rfl rfl rfl (by simp) (fun k hk => heap_alloc_lt w _ k hk) (fun id hid => rfl) (fun id hid => by simp only [Gh.addRow]; rw [if_neg (by omega)]) hmono
    (fun b k hb => by simp only [Gh.addRow]; rw [if_neg (by omega)])
    (fun b k v hb hv => by
      by_cases hbe : b = w.heap.size
      · subst hbe
        simp only [Gh.addRow, if_true] at hv
        rw [cell_of _ _ _ (heap_alloc_new w _), hv]
      · simp only [Gh.addRow, if_neg hbe] at hv
        have := i.H_lt hv; omega)
    (fun j bl hj m => by
      cases j with
      | zero =>
        simp at hj; subst hj
        refine .inr ⟨w.heap.size, len, C, e, by simp [Gh.addRow], heap_alloc_new w _, Nat.le_refl _, hmax, hl, hsz0, fun k hk => ?_, fun h => absurd rfl h⟩
        simp only [Gh.addRow, if_true]
        exact Array.getElem?_eq_none (by omega)
      | succ j => simp at hj)
    (fun j bl b hj ho => by
      cases j with
      | zero => simp at hj; subst hj; simp only [ownerB, Gh.addRow, Nat.add_zero, if_true, Value.ownBlock, Option.some.injEq] at ho; omega
      | succ j => simp at hj)
    (fun j j' bl bl' b hj hj' _ _ => by
      have h1 : j < 1 := by simpa using (List.getElem?_eq_some_iff.1 hj).1
      have h2 : j' < 1 := by simpa using (List.getElem?_eq_some_iff.1 hj').1
      omega)
  refine ⟨key.1, key.2, ?_⟩
  have hlen : (rowsOf len sz row).length = len := (rowsOf_spec len sz row (by omega)).1
  refine .own (t := 0) _ h.length len sz _ ?_ (by simp) (by omega) (rowsOf_spec len sz row (by omega)).2.1 (fun _ => by simp [Gh.addRow])
  refine relP_rows (F := fun j => C.getD j undef) (by omega) (Nat.le_refl _) fun j c hj hlt => ?_
  have hjl : j < C.size := by omega
  obtain ⟨c0, hc0⟩ : ∃ c0, cs[j]? = some c0 := ⟨cs[j]'(by omega), List.getElem?_eq_getElem (by omega)⟩
  obtain ⟨c', e1, e2⟩ := p2 j c0 hc0
  rw [hj] at e1; cases e1
  obtain ⟨q1, q2⟩ := pure1_rel e2 (c2 j c0 hc0)
  refine ⟨?_, q1.mono hmono, q2⟩
  simp [Gh.addRow, Array.getD_eq_getD_getElem?, hjl]

theorem relC_replicate {zc : List AVal} {Z : Array Value} (hz : RelC G h zc Z) : ∀ (len : Nat), RelC G h (List.replicate len zc).flatten ((Array.range (len * Z.size)).map fun j => Z[j % Z.size]!) := by
  intro len
  obtain ⟨h1, h2⟩ := hz
  refine ⟨by simp [h1], fun j u hu => ?_⟩
  have hlt : j < len * zc.length := by
    have := (List.getElem?_eq_some_iff.1 hu).1
    simpa using this
  have hpos : 0 < zc.length := by
    rcases Nat.eq_zero_or_pos zc.length with h0 | h0
    · rw [h0] at hlt; omega
    · exact h0
  have hmod : j % zc.length < zc.length := Nat.mod_lt _ hpos
  have hflat : ∀ (n j : Nat), j < n * zc.length → (List.replicate n zc).flatten[j]? = zc[j % zc.length]? := by
    intro n
    induction n with
    | zero => intro j hj; omega
    | succ n ih =>
      intro j hj
      rw [List.replicate_succ, List.flatten_cons]
      by_cases hjl : j < zc.length
      · rw [List.getElem?_append_left hjl, Nat.mod_eq_of_lt hjl]
      · rw [List.getElem?_append_right (by omega), ih (j - zc.length) (by rw [Nat.add_mul] at hj; omega)]
        rw [Nat.mod_eq_sub_mod (a := j) (by omega)]
  rw [hflat len j hlt] at hu
  have := h2 _ u hu
  rw [h1] at hlt hmod this
  have e : ((Array.range (len * Z.size)).map fun j => Z[j % Z.size]!).getD j undef = Z.getD (j % Z.size) undef := by
    simp [Array.getD_eq_getD_getElem?, hlt, hmod]
  rw [e]; exact this

theorem buildCells_sound {t e : TypeId} {len sz : Nat} {z : AVal} {cs : List AVal} {parts : Array (Nat × Operand)} {f : Operand → AVal} {F : Operand → Value}
    (ht : P.underlying t = some (.slice e)) (hz : zeroT P e = some z) (hn : sizeT P e = some sz) (hsz : sz ≠ 0) (hle : len * sz ≤ 16777216) (hf : ∀ o, RelV G h (f o) (F o)) (hzj : z.isJunk = false) (hzl : z.cells.length = sz)
    (hbd : abuild (List.replicate len z.cells).flatten ((List.range len).map fun i => (i * sz, sz)) (parts.toList.map fun p => (p.1, f p.2)) = some (.agg cs)) :
    ∃ C, RelC G h cs C ∧ C.size = len * sz ∧ len ≤ maxLen ∧
      (Instr.buildSlice t len (parts.map fun (i, x) => (i, F x))).run P w = .ok (.slice (some ⟨w.heap.size, 0, none⟩) len len) (w.alloc (.cells C e)) := by
  obtain ⟨Z, hz1, hz2⟩ := run_zeroValue' (P := P) (G := G) (h := h) (w := w) hz
  have hzc := cells_rel hzj hz2
  have hZs : Z.cells.size = sz := by rw [← hzl]; exact hzc.1.symm
  obtain ⟨C, cs', e1, e2, e3⟩ := fill_sound (G := G) (h := h) (fun i => some (i * sz, sz)) ((List.range len).map fun i => (i * sz, sz)) (fun i p hp => by
      simp only [List.getElem?_map, Option.map_eq_some_iff] at hp
      obtain ⟨a, ha, rfl⟩ := hp
      have := (List.getElem?_eq_some_iff.1 ha).2
      simp at this; rw [this]) _ (parts.toList.map fun p => (p.1, F p.2)) _ _ _ (relC_replicate hzc len)
    (by simp) (fun j a b ha hb => by
      simp only [List.getElem?_map, Option.map_eq_some_iff] at ha hb
      obtain ⟨p, hp1, rfl⟩ := ha
      obtain ⟨q, hq1, rfl⟩ := hb
      rw [hp1] at hq1; cases hq1
      exact hf _) hbd
  cases e2
  have hlen : ∀ (places : List (Nat × Nat)) (parts : List (Nat × AVal)) (zc : List AVal) (r : AVal), abuild zc places parts = some r → ∃ cs, r = .agg cs ∧ cs.length = zc.length := by
    intro places parts
    induction parts with
    | nil => intro zc r hr; simp only [abuild, Option.some.injEq] at hr; exact ⟨zc, hr.symm, rfl⟩
    | cons p parts ih =>
      intro zc r hr
      simp only [abuild] at hr
      split at hr
      · split at hr
        case isFalse => cases hr
        rename_i hc
        obtain ⟨cs, e1, e2⟩ := ih _ _ hr
        refine ⟨cs, e1, e2.trans ?_⟩
        exact length_putCells _ _ _ (by obtain ⟨_, h2, h3⟩ := hc; omega)
      · cases hr
  obtain ⟨cs2, e4, e5⟩ := hlen _ _ _ _ hbd
  cases e4
  have hCs : C.size = len * sz := by
    rw [← e3.1, e5]; simp [hzl]
  refine ⟨C, e3, hCs, by
    have : len ≤ len * sz := Nat.le_mul_of_pos_right _ (by omega)
    simp only [maxLen]; omega, ?_⟩
  have hnle : ¬ (len * sz > 2 ^ 24) := by omega
  rw [hZs] at e1
  by_cases h0 : len * sz = 0
  · have hl0 : len = 0 := by
      rcases Nat.mul_eq_zero.1 h0 with h1 | h1
      · exact h1
      · exact absurd h1 hsz
    subst hl0
    have hE : ∀ g : Nat → Value, Array.map g (Array.range 0) = #[] := fun g => Array.eq_empty_of_size_eq_zero (by simp)
    simp only [Nat.zero_mul, hE] at e1
    simp [Instr.buildSlice, run_underlying ht, run_sizeOf' hn, hE, e1, newRow, Sem.run_pure]
  · simp [Instr.buildSlice, run_underlying ht, run_sizeOf' hn, hnle, h0, hz1, hZs, e1, newRow, Sem.run_pure]

theorem buildRow_sound {t e : TypeId} {len sz : Nat} {z : AVal} {rows : List (List AVal)} {parts : Array (Nat × Operand)} {f : Operand → AVal} {F : Operand → Value}
    (ht : P.underlying t = some (.slice e)) (hz : zeroT P e = some z) (hn : sizeT P e = some sz) (hsz : sz ≠ 0) (hle : len * sz ≤ 16777216) (hf : ∀ o, RelV G h (f o) (F o)) (hzj : z.isJunk = false)
    (hb : abuildRow len sz z.cells (parts.toList.map fun p => (p.1, f p.2)) = some rows) :
    ∃ cs row C, pureRow cs = some row ∧ rows = rowsOf len sz row ∧ RelC G h cs C ∧ C.size = len * sz ∧ len ≤ maxLen ∧
      (Instr.buildSlice t len (parts.map fun (i, x) => (i, F x))).run P w = .ok (.slice (some ⟨w.heap.size, 0, none⟩) len len) (w.alloc (.cells C e)) := by
  unfold abuildRow at hb
  split at hb
  · rename_i cs hbd
    split at hb
    · rename_i row hrow
      split at hb
      case isFalse => cases hb
      rename_i hcond
      obtain ⟨hzl, hall⟩ := hcond
      simp only [Option.some.injEq] at hb
      subst hb
      obtain ⟨C, e3, hCs, hm, hrun⟩ := buildCells_sound (G := G) (h := h) (w := w) ht hz hn hsz hle hf hzj hzl hbd
      exact ⟨cs, row, C, hrow, rfl, e3, hCs, hm, hrun⟩
    · cases hb
  · cases hb

theorem abuildSlice_sound {t e : TypeId} {len sz : Nat} {z r : AVal} {h' : Heap} {parts : Array (Nat × Operand)} {f : Operand → AVal} {F : Operand → Value}
    (i : Inv G h w) (ht : P.underlying t = some (.slice e)) (hz : zeroT P e = some z) (hn : sizeT P e = some sz) (hsz : sz ≠ 0) (hle : len * sz ≤ 16777216) (hf : ∀ o, RelV G h (f o) (F o)) (hzj : z.isJunk = false)
    (hb : abuildSlice len sz z.cells (parts.toList.map fun p => (p.1, f p.2)) h = some (r, h')) :
    ∃ V w' G', (Instr.buildSlice t len (parts.map fun (i, x) => (i, F x))).run P w = .ok V w' ∧ Inv G' h' w' ∧ Ext G h w G' h' w' ∧ RelV G' h' r V := by
  unfold abuildSlice at hb
  split at hb
  · rename_i rows hrows
    simp only [Option.some.injEq, Prod.mk.injEq] at hb
    obtain ⟨rfl, rfl⟩ := hb
    obtain ⟨cs, row, C, h1, rfl, h3, h4, h5, h6⟩ := buildRow_sound (G := G) (h := h) (w := w) ht hz hn hsz hle hf hzj hrows
    obtain ⟨G', g1, g2, g3⟩ := i.newRow e h3 h1 h4 h5 (by omega)
    exact ⟨_, _, G', h6, g1, g2, g3⟩
  · cases hb

end
end
section
open Go Go.RowKit

theorem Inv.drew {G : Gh} {h : Heap} {w : World} (i : Inv G h w) : Inv G h w.drew := ⟨i.ok, fun id bl hb => by have := i.blk id bl hb; cases bl <;> exact this, i.inj⟩
theorem Inv.drawn {G : Gh} {h : Heap} {w : World} (i : Inv G h w) (d : Nat) : Inv G h { w with drawn := d } := ⟨i.ok, fun id bl hb => by have := i.blk id bl hb; cases bl <;> exact this, i.inj⟩
theorem Ext.drawn (G : Gh) (h : Heap) (w : World) (d : Nat) : Ext G h w G h { w with drawn := d } :=
  ⟨rfl, rfl, rfl, Nat.le_refl _, fun _ _ _ => ⟨rfl, fun _ => rfl⟩, fun _ _ _ h => h, fun _ _ h _ => h, fun id bl hb => ⟨bl, hb, Kind.refl G id bl⟩⟩
theorem Ext.drew (G : Gh) (h : Heap) (w : World) : Ext G h w G h w.drew :=
  ⟨rfl, rfl, rfl, Nat.le_refl _, fun _ _ _ => ⟨rfl, fun _ => rfl⟩, fun _ _ _ h => h, fun _ _ h _ => h, fun id bl hb => ⟨bl, hb, Kind.refl G id bl⟩⟩

section
variable {P : Program} {G : Gh} {h : Heap} {w : World} {x y v : AVal} {X Y V : Value}

/-- The cells of a slice: as values, and as related cells. -/
structure Src (G : Gh) (h : Heap) (w : World) (sz : Nat) (rows : List (List AVal)) (X : Value) (a : Option Addr) (news : List Value) : Prop where
  form : ∃ cap, X = .slice a rows.length cap
  len : news.length = rows.length * sz
  rlen : ∀ r ∈ rows, r.length = sz
  at_ : ∀ (j : Nat) u, news[j]? = some u → ∃ ad, a = some ad ∧ w.cell? (ad.add j) = some u
  rel : ∀ (i j : Nat) (row : List AVal) (c : AVal), rows[i]? = some row → row[j]? = some c → ∃ u, news[i * sz + j]? = some u ∧ RelP G.H c u ∧ c.cellOk = true

theorem arowsS_sound {sz : Nat} {rows : List (List AVal)} (i : Inv G h w) (hb : arowsS sz h x = some rows) (hx : RelV G h x X) : ∃ a news, Src G h w sz rows X a news := by
  unfold arowsS at hb
  split at hb
  · rename_i rows' tok
    split at hb
    case isFalse => cases hb
    rename_i hall
    simp only [Option.some.injEq] at hb; subst hb
    have hrl : ∀ r ∈ rows', r.length = sz := fun r hr => by simpa using List.all_eq_true.1 hall r hr
    have hp := hx.slice_inv
    cases hp with
    | slice0 a cap => exact ⟨a, [], ⟨cap, rfl⟩, by simp, by simp, by simp, by simp⟩
    | slice rows b off cap sz' F hr hc hH hk hV =>
      have hszz : 0 < rows'.length → sz' = sz := fun h0 => by
        have hm : rows'[0]? = some rows'[0] := List.getElem?_eq_getElem h0
        rw [← hr _ (List.mem_of_getElem? hm), hrl _ (List.mem_of_getElem? hm)]
      refine ⟨some ⟨b, off, none⟩, (List.range (rows'.length * sz)).map F, ⟨cap, rfl⟩, by simp, hrl, ?_, ?_⟩
      · intro j u hu
        have hj : j < rows'.length * sz := by simpa using (List.getElem?_eq_some_iff.1 hu).1
        have hpos : 0 < sz := by rcases Nat.eq_zero_or_pos sz with h0 | h0; · rw [h0] at hj; omega
                                 · exact h0
        have hrow : j / sz < rows'.length := (Nat.div_lt_iff_lt_mul hpos).2 hj
        have h1 : rows'[j / sz]? = some rows'[j / sz] := List.getElem?_eq_getElem hrow
        have hl := hrl _ (List.mem_of_getElem? h1)
        have h2 : rows'[j / sz][j % sz]? = some (rows'[j / sz][j % sz]'(by rw [hl]; exact Nat.mod_lt _ hpos)) := List.getElem?_eq_getElem _
        have hs' := hszz (Nat.lt_of_le_of_lt (Nat.zero_le _) hrow)
        subst hs'
        have h3 := hH _ _ _ _ h1 h2
        rw [show j / sz' * sz' + j % sz' = j by rw [Nat.mul_comm]; exact Nat.div_add_mod j sz'] at h3
        refine ⟨_, rfl, ?_⟩
        rw [add_plain, i.ok _ _ _ h3]
        simp [hj] at hu
        rw [hu]
      · intro i' j row c h1 h2
        have hl := hrl _ (List.mem_of_getElem? h1)
        have hi' : i' < rows'.length := (List.getElem?_eq_some_iff.1 h1).1
        have hj' : j < sz := by rw [← hl]; exact (List.getElem?_eq_some_iff.1 h2).1
        have hs' := hszz (by omega)
        subst hs'
        refine ⟨F (i' * sz' + j), ?_, hV _ _ _ _ h1 h2, hk _ _ _ _ h1 h2⟩
        have : i' * sz' + j < rows'.length * sz' := by
          calc i' * sz' + j < i' * sz' + sz' := by omega
            _ = (i' + 1) * sz' := by rw [Nat.add_mul]; omega
            _ ≤ rows'.length * sz' := Nat.mul_le_mul_right _ hi'
        simp [this]
  · rename_i id off len sz'
    cases hgb : getBlk h id with
    | none => simp [hgb] at hb
    | some cs =>
      have hid := getBlk_some hgb
      simp only [hgb] at hb
      split at hb
      case isFalse => cases hb
      rename_i hcond
      obtain ⟨rfl, hle⟩ := hcond
      split at hb <;> simp only [Option.some.injEq, reduceCtorEq] at hb
      rename_i row hrow
      subst hb
      obtain ⟨a, cap, rfl, hlc, ha⟩ := hx.mslice_inv
      obtain ⟨C, e, h1, h2, h3, h4⟩ := i.blk id _ hid
      obtain ⟨p1, p2⟩ := pureRow_spec hrow
      have hdl : ((cs.drop off).take (len * sz')).length = len * sz' := by rw [List.length_take, List.length_drop]; omega
      rw [hdl] at p1
      obtain ⟨q1, q2, q3⟩ := rowsOf_spec len sz' row (by omega)
      refine ⟨a, (C.toList.drop off).take (len * sz'), ⟨cap, by rw [q1]⟩, by rw [q1, List.length_take, List.length_drop, Array.length_toList]; omega, q2, ?_, ?_⟩
      · intro j u hu
        rw [List.getElem?_take] at hu
        split at hu
        · rename_i hj
          have hpos : 0 < len := by rcases Nat.eq_zero_or_pos len with h0 | h0; · rw [h0] at hj; omega
                                    · exact h0
          obtain ⟨rfl, _⟩ := ha hpos
          refine ⟨_, rfl, ?_⟩
          rw [add_plain, cell_of w _ _ h1]
          rw [List.getElem?_drop, Array.getElem?_toList] at hu
          exact hu
        · cases hu
      · intro i' j r c hi hj
        have hrow' := q3 i' j r c hi hj
        have hlt : i' * sz' + j < len * sz' := by
          have := (List.getElem?_eq_some_iff.1 hrow').1; omega
        have hget : ∃ c0, ((cs.drop off).take (len * sz'))[i' * sz' + j]? = some c0 := ⟨_, List.getElem?_eq_getElem (by omega)⟩
        obtain ⟨c0, hc0⟩ := hget
        obtain ⟨c', e1, e2⟩ := p2 _ c0 hc0
        rw [hrow'] at e1; cases e1
        have hc1 : cs[off + (i' * sz' + j)]? = some c0 := by
          rw [List.getElem?_take, if_pos hlt, List.getElem?_drop] at hc0; exact hc0
        obtain ⟨_, hrel⟩ := h4 _ c0 hc1
        obtain ⟨z1, z2⟩ := pure1_rel e2 hrel
        have hCl : off + (i' * sz' + j) < C.size := by rw [h2]; exact (List.getElem?_eq_some_iff.1 hc1).1
        refine ⟨C.getD (off + (i' * sz' + j)) undef, ?_, z1, z2⟩
        rw [List.getElem?_take, if_pos hlt, List.getElem?_drop, Array.getElem?_toList, Array.getElem?_eq_getElem hCl]
        simp [Array.getD_eq_getD_getElem?, hCl]
  · rename_i id tot off len sz'
    cases hgb : getVec h id tot with
    | none => simp [hgb] at hb
    | some x0 =>
      have hid := getVec_some hgb
      simp only [hgb] at hb
      split at hb
      case isFalse => cases hb
      rename_i hcond
      obtain ⟨rfl, hle⟩ := hcond
      split at hb <;> simp only [Option.some.injEq, reduceCtorEq] at hb
      rename_i row hrow
      subst hb
      obtain ⟨b, cap, rfl, hnf, htot, hlc, hv⟩ := hx.vslice_inv
      obtain ⟨b', cap', C, e, g1, g2, g3, g4, g5, g6, g7, g8, g9⟩ := i.blk id _ hid
      obtain ⟨l0, cap0, k1, _⟩ := hv (by rw [g1]; rfl)
      rw [g1] at k1
      simp only [Value.slice.injEq, Option.some.injEq, Addr.mk.injEq] at k1
      obtain ⟨⟨rfl, _⟩, _, rfl⟩ := k1
      have hcl : x0.2.length ≤ C.size := by rw [g7, g5]; exact Nat.mul_le_mul_right _ g3
      obtain ⟨p1, p2⟩ := pureRow_spec hrow
      have hdl : ((x0.2.drop off).take (len * sz')).length = len * sz' := by rw [List.length_take, List.length_drop]; omega
      rw [hdl] at p1
      obtain ⟨q1, q2, q3⟩ := rowsOf_spec len sz' row (by omega)
      refine ⟨some ⟨b', off, none⟩, (C.toList.drop off).take (len * sz'), ⟨cap, by rw [q1]⟩, by rw [q1, List.length_take, List.length_drop, Array.length_toList]; omega, q2, ?_, ?_⟩
      · intro j u hu
        rw [List.getElem?_take] at hu
        split at hu
        · refine ⟨_, rfl, ?_⟩
          rw [add_plain, cell_of w _ _ g2]
          rw [List.getElem?_drop, Array.getElem?_toList] at hu
          exact hu
        · cases hu
      · intro i' j r c hi hj
        have hrow' := q3 i' j r c hi hj
        have hlt : i' * sz' + j < len * sz' := by
          have := (List.getElem?_eq_some_iff.1 hrow').1; omega
        have hget : ∃ c0, ((x0.2.drop off).take (len * sz'))[i' * sz' + j]? = some c0 := ⟨_, List.getElem?_eq_getElem (by omega)⟩
        obtain ⟨c0, hc0⟩ := hget
        obtain ⟨c', e1, e2⟩ := p2 _ c0 hc0
        rw [hrow'] at e1; cases e1
        have hc1 : x0.2[off + (i' * sz' + j)]? = some c0 := by
          rw [List.getElem?_take, if_pos hlt, List.getElem?_drop] at hc0; exact hc0
        obtain ⟨_, hrel⟩ := g9 _ c0 hc1
        obtain ⟨z1, z2⟩ := pure1_rel e2 hrel
        have hCl : off + (i' * sz' + j) < C.size := by have := (List.getElem?_eq_some_iff.1 hc1).1; omega
        refine ⟨C.getD (off + (i' * sz' + j)) undef, ?_, z1, z2⟩
        rw [List.getElem?_take, if_pos hlt, List.getElem?_drop, Array.getElem?_toList, Array.getElem?_eq_getElem hCl]
        simp [Array.getD_eq_getD_getElem?, hCl]
  · cases hb

/-- A source's cells are one cell each. -/
theorem Src.one {sz : Nat} {rows : List (List AVal)} {a : Option Addr} {news : List Value} (s : Src G h w sz rows X a news) : ∀ u ∈ news, u.oneCell' = true := by
  intro u hu
  obtain ⟨j, hj⟩ := List.getElem?_of_mem hu
  have hjl : j < rows.length * sz := by rw [← s.len]; exact (List.getElem?_eq_some_iff.1 hj).1
  have hpos : 0 < sz := by rcases Nat.eq_zero_or_pos sz with h0 | h0; · rw [h0] at hjl; omega
                           · exact h0
  have hrow : j / sz < rows.length := (Nat.div_lt_iff_lt_mul hpos).2 hjl
  have h1 : rows[j / sz]? = some rows[j / sz] := List.getElem?_eq_getElem hrow
  have hl := s.rlen _ (List.mem_of_getElem? h1)
  have h2 : rows[j / sz][j % sz]? = some (rows[j / sz][j % sz]'(by rw [hl]; exact Nat.mod_lt _ hpos)) := List.getElem?_eq_getElem _
  obtain ⟨u', e1, e2, e3⟩ := s.rel _ _ _ _ h1 h2
  rw [show j / sz * sz + j % sz = j by rw [Nat.mul_comm]; exact Nat.div_add_mod j sz] at e1
  rw [hj] at e1; cases e1
  exact (e2.oneCell e3).1

/-- Persistent rows in a block whose first cells are known. -/
theorem relP_block {H : Nat → Nat → Option Value} {rows : List (List AVal)} {sz b cap : Nat} {all : List Value} (hr : ∀ r ∈ rows, r.length = sz) (hc : rows.length ≤ cap)
    (hH : ∀ (k : Nat) u, all[k]? = some u → H b k = some u)
    (hrel : ∀ (i j : Nat) (row : List AVal) (c : AVal), rows[i]? = some row → row[j]? = some c → ∃ u, all[i * sz + j]? = some u ∧ RelP H c u ∧ c.cellOk = true) :
    RelP H (.slice rows .no) (.slice (some ⟨b, 0, none⟩) rows.length cap) := by
  refine .slice rows b 0 cap sz (fun k => all.getD k undef) hr hc ?_ ?_ ?_
  · intro i j row c h1 h2
    obtain ⟨u, e1, _⟩ := hrel i j row c h1 h2
    rw [Nat.zero_add, hH _ u e1, List.getD_eq_getElem?_getD, e1]; rfl
  · intro i j row c h1 h2; obtain ⟨u, _, _, e3⟩ := hrel i j row c h1 h2; exact e3
  · intro i j row c h1 h2
    obtain ⟨u, e1, e2, _⟩ := hrel i j row c h1 h2
    rw [List.getD_eq_getElem?_getD, e1]; exact e2

/-- The cells of two lists of rows, one behind the other. -/
theorem rel_append {H : Nat → Nat → Option Value} {A B : List (List AVal)} {sz : Nat} {xs ys : List Value} (hxl : xs.length = A.length * sz) (hA : ∀ r ∈ A, r.length = sz)
    (h1 : ∀ (i j : Nat) (row : List AVal) (c : AVal), A[i]? = some row → row[j]? = some c → ∃ u, xs[i * sz + j]? = some u ∧ RelP H c u ∧ c.cellOk = true)
    (h2 : ∀ (i j : Nat) (row : List AVal) (c : AVal), B[i]? = some row → row[j]? = some c → ∃ u, ys[i * sz + j]? = some u ∧ RelP H c u ∧ c.cellOk = true) :
    ∀ (i j : Nat) (row : List AVal) (c : AVal), (A ++ B)[i]? = some row → row[j]? = some c → ∃ u, (xs ++ ys)[i * sz + j]? = some u ∧ RelP H c u ∧ c.cellOk = true := by
  intro i j row c hi hj
  by_cases hlt : i < A.length
  · rw [List.getElem?_append_left hlt] at hi
    obtain ⟨u, e1, e2⟩ := h1 i j row c hi hj
    exact ⟨u, by rw [List.getElem?_append_left (List.getElem?_eq_some_iff.1 e1).1]; exact e1, e2⟩
  · rw [List.getElem?_append_right (by omega)] at hi
    obtain ⟨u, e1, e2⟩ := h2 _ j row c hi hj
    refine ⟨u, ?_, e2⟩
    have : A.length * sz ≤ i * sz := Nat.mul_le_mul_right _ (by omega)
    rw [List.getElem?_append_right (by omega), hxl, ← e1]
    congr 1
    rw [Nat.sub_mul]; omega

/-- A token's slice goes over to a longer one: in its block, or in a new one. -/
theorem Inv.grow (i : Inv G h w) {id n n' sz sz' t t' bb cap' : Nat} {all : List Value} {C' : Array Value} {e' : TypeId} {w' : World} (hid : h[id]? = some (.front n sz t)) (hnn : n < n') (hsz : 0 < n → sz' = sz)
    (os : w'.os = w.os) (tape : w'.tape = w.tape) (output : w'.output = w.output) (size : w.heap.size ≤ w'.heap.size)
    (heap : ∀ k, k < w.heap.size → (k = bb → (G.cur id).ownBlock ≠ some k) → (k = bb → False) → w'.heap[k]? = w.heap[k]?)
    (hbb : (w.heap.size ≤ bb) ∨ (G.cur id).ownBlock = some bb)
    (hC : w'.heap[bb]? = some (.cells C' e' (0, 0))) (hcap : n' ≤ cap') (hmax : cap' ≤ maxLen) (hCs : C'.size = cap' * sz')
    (hsz0 : 0 < sz') (hall : all.length = n' * sz') (hC' : ∀ (k : Nat) u, all[k]? = some u → C'[k]? = some u)
    (hold : ∀ k v, G.H bb k = some v → all[k]? = some v) (htt : t' ≠ 0 → e' + 1 = t') :
    ∃ G', Inv G' (h.set id (.front n' sz' t')) w' ∧ Ext G h w G' (h.set id (.front n' sz' t')) w' ∧ (∀ b k v, G.H b k = some v → G'.H b k = some v) ∧
      (∀ (k : Nat) u, all[k]? = some u → G'.H bb k = some u) ∧ G'.cur id = .slice (some ⟨bb, 0, none⟩) n' cap' := by
  let G' : Gh := { G with H := fun b k => if b = bb then all[k]? else G.H b k, cur := fun j => if j = id then .slice (some ⟨bb, 0, none⟩) n' cap' else G.cur j }
  have hmono : ∀ b k v, G.H b k = some v → G'.H b k = some v := by
    intro b k v hv
    show (if b = bb then all[k]? else G.H b k) = some v
    by_cases hb : b = bb
    · subst hb; rw [if_pos rfl]; exact hold k v hv
    · rw [if_neg hb]; exact hv
  have key := i.step (G' := G') id (.front n sz t) (.front n' sz' t') hid os tape output size
    (fun k hk hne => heap k hk (fun _ => hne) (fun e => by
      subst e
      rcases hbb with h1 | h1
      · omega
      · exact hne h1))
    (fun j hj => rfl) (fun j hj => if_neg hj) hmono
    (fun b k hb hne => by
      have : b ≠ bb := by
        rintro rfl
        rcases hbb with h1 | h1
        · omega
        · exact hne h1
      show (if b = bb then all[k]? else G.H b k) = _
      rw [if_neg this])
    (fun b k v hb hv => by
      change (if b = bb then all[k]? else G.H b k) = some v at hv
      by_cases hbe : b = bb
      · subst hbe
        rw [if_pos rfl] at hv
        rw [cell_of w' _ _ hC]; exact hC' k v hv
      · rw [if_neg hbe] at hv
        have hlt := i.H_lt hv
        rw [World.cell?_of_block (w := w) (a := ⟨b, k, none⟩) (heap b hlt (fun e => absurd e hbe) hbe)]
        exact i.ok b k v hv)
    ⟨by omega, fun e => by omega, rfl, hsz⟩
    (fun _ => .inr ⟨bb, cap', C', e', if_pos rfl, hC, hcap, hmax, hCs, hsz0, fun k hk => by
      show (if bb = bb then all[k]? else G.H bb k) = none
      rw [if_pos rfl]; exact List.getElem?_eq_none (by omega), htt⟩)
    (fun b hb => by
      have hb : Value.ownBlock (if id = id then .slice (some ⟨bb, 0, none⟩) n' cap' else G.cur id) = some b := hb
      rw [if_pos rfl] at hb
      simp only [Value.ownBlock, Option.some.injEq] at hb
      subst hb
      exact hbb)
  exact ⟨G', key.1, key.2, hmono, fun k u hu => by show (if bb = bb then all[k]? else G.H bb k) = some u; rw [if_pos rfl]; exact hu, if_pos rfl⟩

end
end
end Hk
