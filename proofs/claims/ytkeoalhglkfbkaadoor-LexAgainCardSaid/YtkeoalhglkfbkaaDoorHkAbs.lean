/-
  THE ABSTRACT INTERPRETER: the loader's Code run over pure data: persistent slices as lists of rows of cells, mutable blocks in a heap that is a list. No program in sight.
-/
import Derived.WalkKit
set_option linter.unusedVariables false
set_option linter.unusedSimpArgs false
namespace Hk
open Go

/-- Who may append in place: nobody; a nil slice; the holder of this token. -/
inductive Tok where
  | no | nil | own (id : Nat)
  deriving DecidableEq, Inhabited

inductive AVal where
  | junk
  | bool (b : Bool)
  | int (k : IntKind) (n : Int)
  | str (s : List UInt8)
  | agg (cs : List AVal)
  | tuple (vs : List AVal)
  | slice (rows : List (List AVal)) (tok : Tok)
  | pptr (cs : List AVal)
  | ptr (id off : Nat)
  | nilptr
  | mslice (id off len sz : Nat)
  | map (id : Nat)
  | nilmap
  | func (f : Nat) (first cap : List AVal)
  | nilfunc
  | iface (t : Nat) (v : AVal)
  | niliface
  deriving Inhabited

inductive ABlk where
  | free
  | gone
  | cells (cs : List AVal)
  | front (n sz : Nat)
  | map (es : List (AVal × AVal))
  deriving Inhabited

abbrev Heap := List ABlk

/-- How a call, or a piece of code, ends. -/
inductive Ex where
  | normal | ret | exit (id : Nat) | pan (v : AVal)
  deriving Inhabited

inductive Res where
  | ret (v : AVal) | pan (v : AVal)
  deriving Inhabited

abbrev CallO := Nat → List AVal → Heap → Option (Res × Heap)
abbrev R := Ex × List AVal × Heap

/-- Functions without a body. -/
inductive ExtK where
  | indexByte
  deriving DecidableEq

structure Ann where
  glob : Nat → Option (List AVal) := fun _ => none
  esc : Nat → Bool := fun _ => false
  grow : Nat → Bool := fun _ => false
  pure : Nat → Bool := fun _ => false
  ext : Nat → Option ExtK := fun _ => none

/-! ### Values -/

def AVal.cells : AVal → List AVal
  | .agg cs => cs
  | v => [v]

def ofConst1 : Value → AVal
  | .bool b => .bool b
  | .int k n => .int k n
  | .string s => .str s.data.toList
  | .pointer none => .nilptr
  | .slice none 0 0 => .slice [] .nil
  | .map none => .nilmap
  | .nilFunc => .nilfunc
  | .nilIface => .niliface
  | _ => .junk

def ofConst : Value → AVal
  | .agg cs => .agg (cs.toList.map ofConst1)
  | .tuple cs => match cs.toList with | [] => .tuple [] | _ => .junk
  | v => ofConst1 v

def aval (A : Ann) (ρ : List AVal) : Operand → AVal
  | .tmp t => ρ.getD t .junk
  | .const v => ofConst v
  | .global g => match A.glob g with | some cs => .pptr cs | none => .junk
  | .func f => .func f [] []

/-- A cell that may lie in persistent memory: no token, no pointer to mutable memory. -/
def AVal.pure1 : AVal → Option AVal
  | .bool b => some (.bool b)
  | .int k n => some (.int k n)
  | .str s => some (.str s)
  | .slice rows _ => some (.slice rows .no)
  | .pptr cs => some (.pptr cs)
  | .nilptr => some .nilptr
  | .nilmap => some .nilmap
  | .func f [] [] => some (.func f [] [])
  | .nilfunc => some .nilfunc
  | .niliface => some .niliface
  | _ => none

def pureRow : List AVal → Option (List AVal)
  | [] => some []
  | v :: r => match v.pure1, pureRow r with
    | some x, some y => some (x :: y)
    | _, _ => none

def AVal.isJunk : AVal → Bool
  | .junk => true
  | _ => false

/-- May this value be a cell of a block? -/
def AVal.cellOk : AVal → Bool
  | .junk | .agg _ | .tuple _ => false
  | _ => true

/-! ### Sanitizing: what leaves a frame, or is stored below it, holds nothing of the heap from m on -/

def rowsOf : Nat → Nat → List AVal → List (List AVal)
  | 0, _, _ => []
  | n + 1, sz, cs => cs.take sz :: rowsOf n sz (cs.drop sz)

/-- The block that a value refers to. -/
def refOf : AVal → Option Nat
  | .ptr id _ => some id
  | .mslice id _ _ _ => some id
  | .map id => some id
  | .slice _ (.own id) => some id
  | _ => none
/-- Values that refer to no block from m on. -/
def AVal.shut0 (m : Nat) : AVal → Bool
  | .agg _ => false
  | .tuple _ => false
  | .iface _ _ => false
  | .func _ first cap => first.isEmpty && cap.isEmpty
  | v => match refOf v with | some r => decide (r < m) | none => true
def AVal.shut1 (m : Nat) : AVal → Bool
  | .agg cs => cs.all (AVal.shut0 m)
  | .iface _ v => v.shut0 m
  | .func _ first cap => first.all (AVal.shut0 m) && cap.all (AVal.shut0 m)
  | v => v.shut0 m

/-- A cell when the blocks from m on are dropped. -/
def AVal.san1 (m : Nat) (h : Heap) : AVal → AVal
  | .slice rows (.own id) => bif decide (id < m) then .slice rows (.own id) else .slice rows .no
  | .ptr id off => bif decide (id < m) then .ptr id off else
      match h[id]? with
      | some (.cells cs) => match pureRow (cs.drop off) with
        | some row => .pptr row
        | none => .junk
      | _ => .junk
  | .mslice id off len sz => bif decide (id < m) then .mslice id off len sz else
      match h[id]? with
      | some (.cells cs) => match pureRow ((cs.drop off).take (len * sz)) with
        | some row => bif decide (off + len * sz ≤ cs.length) then .slice (rowsOf len sz row) .no else .junk
        | none => .junk
      | _ => .junk
  | v => bif v.shut1 m then v else .junk

def AVal.san (m : Nat) (h : Heap) : AVal → AVal
  | .agg cs => .agg (cs.map (·.san1 m h))
  | .tuple vs => .tuple (vs.map fun v => match v with | .agg cs => .agg (cs.map (·.san1 m h)) | v => v.san1 m h)
  | .iface t (.agg cs) => .iface t (.agg (cs.map (·.san1 m h)))
  | .iface t v => .iface t (v.san1 m h)
  | v => v.san1 m h

/-- The blocks below m when the others are dropped. -/
def sanCells (m : Nat) (h : Heap) : List AVal → Option (List AVal)
  | [] => some []
  | v :: r => bif (v.san1 m h).cellOk then (match sanCells m h r with | some r' => some (v.san1 m h :: r') | none => none) else none
def sanBlk (m : Nat) (h : Heap) : ABlk → Option ABlk
  | .cells cs => (sanCells m h cs).map .cells
  | .map es => bif es.all (fun e => e.2.shut1 m) then some (.map es) else none
  | b => some b
def sanBlks (m : Nat) (h : Heap) : List ABlk → Option (List ABlk)
  | [] => some []
  | b :: r => match sanBlk m h b, sanBlks m h r with
    | some b', some r' => some (b' :: r')
    | _, _ => none
def trunc (m : Nat) (h : Heap) : Option Heap := sanBlks m h (h.take m)

/-- Strip the right to append. -/
def AVal.untok1 : AVal → AVal
  | .slice rows _ => .slice rows .no
  | v => v
def AVal.untok : AVal → AVal
  | .agg cs => .agg (cs.map AVal.untok1)
  | .tuple vs => .tuple (vs.map fun v => match v with | .agg cs => .agg (cs.map AVal.untok1) | v => v.untok1)
  | v => v.untok1

/-! ### Operations on values -/

def abin (op : BinOp) (x y : AVal) : Option AVal :=
  match x, y with
  | .int k a, .int k' b =>
    match op with
    | .shl => if b < 0 then none else some (.int k (k.wrap (a * 2 ^ (min b.toNat k.bits))))
    | .shr => if b < 0 then none else some (.int k (a.fdiv (2 ^ (min b.toNat k.bits))))
    | _ => if k ≠ k' then none else
      match op with
      | .add => some (.int k (k.wrap (a + b)))
      | .sub => some (.int k (k.wrap (a - b)))
      | .mul => some (.int k (k.wrap (a * b)))
      | .quo => if b = 0 then none else some (.int k (k.wrap (a.tdiv b)))
      | .rem => if b = 0 then none else some (.int k (a.tmod b))
      | .and => some (.int k (k.wrap (BitVec.ofInt k.bits a &&& BitVec.ofInt k.bits b).toNat))
      | .or => some (.int k (k.wrap (BitVec.ofInt k.bits a ||| BitVec.ofInt k.bits b).toNat))
      | .xor => some (.int k (k.wrap (BitVec.ofInt k.bits a ^^^ BitVec.ofInt k.bits b).toNat))
      | .andNot => some (.int k (k.wrap (BitVec.ofInt k.bits a &&& ~~~ BitVec.ofInt k.bits b).toNat))
      | .eql => some (.bool (a == b))
      | .neq => some (.bool (a != b))
      | .lss => some (.bool (a < b))
      | .leq => some (.bool (a ≤ b))
      | .gtr => some (.bool (a > b))
      | .geq => some (.bool (a ≥ b))
      | _ => none
  | .str a, .str b =>
    match op with
    | .add => if a.length + b.length ≤ 4611686018427387904 then some (.str (a ++ b)) else none
    | .eql => some (.bool (a == b))
    | .neq => some (.bool (!(a == b)))
    | .lss => some (.bool (Op.bytesLess a b))
    | .leq => some (.bool (Op.bytesLess a b || a == b))
    | .gtr => some (.bool (!(Op.bytesLess a b || a == b)))
    | .geq => some (.bool (!(Op.bytesLess a b)))
    | _ => none
  | _, _ => none

def abinB (op : BinOp) (x y : AVal) : Option AVal :=
  match op, x, y with
  | .eql, .bool a, .bool b => some (.bool (a == b))
  | .neq, .bool a, .bool b => some (.bool (!(a == b)))
  | _, _, _ => none

def aeq1 : AVal → AVal → Option Bool
  | .int k a, .int k' b => if k = k' then some (a == b) else none
  | .bool a, .bool b => some (a == b)
  | .str a, .str b => some (a == b)
  | _, _ => none

/-- The kinds of cells that '==' may see in a struct. -/
inductive Kd where
  | b | i | s
  deriving DecidableEq
def aeqK : Kd → AVal → AVal → Option Bool
  | .i, .int k a, .int k' b => if k = k' then some (a == b) else none
  | .b, .bool a, .bool b => some (a == b)
  | .s, .str a, .str b => some (a == b)
  | _, _, _ => none
def aeqAll : List Kd → List AVal → List AVal → Option Bool
  | [], [], [] => some true
  | k :: ks, x :: xs, y :: ys => match aeqK k x y, aeqAll ks xs ys with
    | some a, some b => some (a && b)
    | _, _ => none
  | _, _, _ => none

/-- '==' on structs of scalars. -/
def aeqAgg (ks : List Kd) : AVal → AVal → Option Bool
  | .agg xs, .agg ys => aeqAll ks xs ys
  | _, _ => none

def aun (op : UnOp) (x : AVal) : Option AVal :=
  match op, x with
  | .neg, .int k n => some (.int k (k.wrap (0 - n)))
  | .xor, .int k n => some (.int k (k.wrap (BitVec.ofInt k.bits (if k.signed then -1 else k.max) ^^^ BitVec.ofInt k.bits n).toNat))
  | .not, .bool b => some (.bool !b)
  | _, _ => none

def aconvInt (k : IntKind) : AVal → Option AVal
  | .int _ n => some (.int k (k.wrap n))
  | _ => none

def apick (c a b : AVal) : Option AVal :=
  match c with
  | .bool g => some (bif g then a else b)
  | _ => none

/-- A part of an aggregate: one cell, or 'n' cells again an aggregate. -/
def apart (isAgg : Bool) (n : Nat) (cs : List AVal) (off : Nat) : Option AVal :=
  bif isAgg then (if off + n ≤ cs.length then some (.agg ((cs.drop off).take n)) else none) else cs[off]?

def afield (isAgg : Bool) (n off : Nat) : AVal → Option AVal
  | .agg cs => apart isAgg n cs off
  | _ => none

def aextract (i : Nat) : AVal → Option AVal
  | .tuple vs => vs[i]?
  | _ => none

def aasInt : AVal → Option Int
  | .int _ n => some n
  | _ => none

def aindexStr (x i : AVal) : Option AVal :=
  match x, i with
  | .str s, .int _ n => if 0 ≤ n then (s[n.toNat]?).map fun b => .int .u8 b.toNat else none
  | _, _ => none

def aindexArr (isAgg : Bool) (len sz : Nat) (x i : AVal) : Option AVal :=
  match x, i with
  | .agg cs, .int _ n => if 0 ≤ n ∧ n < len then apart isAgg sz cs (n.toNat * sz) else none
  | _, _ => none

/-- The address of a slice's element. -/
def aindexSl (sz : Nat) (x i : AVal) : Option AVal :=
  match x, i with
  | .slice rows _, .int _ n =>
    if 0 ≤ n then match rows[n.toNat]? with
      | some row => if row.length = sz then some (.pptr row) else none
      | none => none
    else none
  | .mslice id off len sz', .int _ n => if 0 ≤ n ∧ n < len ∧ sz' = sz then some (.ptr id (off + n.toNat * sz)) else none
  | _, _ => none

/-- The address of an array's element. -/
def aindexAt (len sz : Nat) (x i : AVal) : Option AVal :=
  match x, i with
  | .ptr id off, .int _ n => if 0 ≤ n ∧ n < len then some (.ptr id (off + n.toNat * sz)) else none
  | .pptr cs, .int _ n => if 0 ≤ n ∧ n < len then some (.pptr (cs.drop (n.toNat * sz))) else none
  | _, _ => none

def afieldAt (off : Nat) : AVal → Option AVal
  | .ptr id o => some (.ptr id (o + off))
  | .pptr cs => some (.pptr (cs.drop off))
  | _ => none

def abound (x : Option AVal) (dflt : Nat) : Option Nat :=
  match x with
  | none => some dflt
  | some (.int _ n) => if 0 ≤ n then some n.toNat else none
  | _ => none

def asliceStr (x : AVal) (lo hi : Option AVal) : Option AVal :=
  match x with
  | .str s => match abound lo 0, abound hi s.length with
    | some l, some u => if l ≤ u ∧ u ≤ s.length then some (.str ((s.drop l).take (u - l))) else none
    | _, _ => none
  | _ => none

def asliceSl (sz : Nat) (x : AVal) (lo hi : Option AVal) : Option AVal :=
  match x with
  | .slice rows _ => match abound lo 0, abound hi rows.length with
    | some l, some u => if l ≤ u ∧ u ≤ rows.length ∧ (rows.all fun r => r.length == sz) then some (.slice ((rows.drop l).take (u - l)) .no) else none
    | _, _ => none
  | .mslice id off len sz' => match abound lo 0, abound hi len with
    | some l, some u => if l ≤ u ∧ u ≤ len ∧ sz' = sz then some (.mslice id (off + l * sz) (u - l) sz) else none
    | _, _ => none
  | _ => none

/-- An array's address, sliced. -/
def asliceAt (n sz : Nat) (x : AVal) (lo hi : Option AVal) : Option AVal :=
  match x, abound lo 0, abound hi n with
  | .ptr id off, some l, some u => if l ≤ u ∧ u ≤ n then some (.mslice id (off + l * sz) (u - l) sz) else none
  | .pptr cs, some l, some u => if l ≤ u ∧ u ≤ n ∧ n * sz ≤ cs.length then some (.slice (rowsOf (u - l) sz (cs.drop (l * sz))) .no) else none
  | _, _, _ => none

def alenStr : AVal → Option AVal
  | .str s => some (.int .i64 s.length)
  | _ => none
def alenSl : AVal → Option AVal
  | .slice rows _ => some (.int .i64 rows.length)
  | .mslice _ _ len _ => some (.int .i64 len)
  | _ => none

def amax2 (x y : AVal) : Option AVal :=
  match x, y with
  | .int k a, .int _ b => some (.int k (if b > a then b else a))
  | _, _ => none
def amin2 (x y : AVal) : Option AVal :=
  match x, y with
  | .int k a, .int _ b => some (.int k (if b < a then b else a))
  | _, _ => none

/-! ### Memory -/

def getBlk (h : Heap) (id : Nat) : Option (List AVal) :=
  match h[id]? with
  | some (.cells cs) => some cs
  | _ => none

def aload (isAgg : Bool) (n : Nat) (h : Heap) : AVal → Option AVal
  | .pptr cs => apart isAgg n cs 0
  | .ptr id off => match getBlk h id with
    | some cs => apart isAgg n cs off
    | none => none
  | _ => none

def putCells (cs : List AVal) (off : Nat) (vs : List AVal) : List AVal := cs.take off ++ vs ++ cs.drop (off + vs.length)

/-- Store 'n' cells at an address. -/
def astore (n : Nat) (h : Heap) (p v : AVal) : Option Heap :=
  match p with
  | .ptr id off => match getBlk h id with
    | some cs =>
      let vs := v.cells
      if vs.length = n ∧ off + n ≤ cs.length ∧ vs.all AVal.cellOk then some (h.set id (.cells (putCells cs off vs))) else none
    | none => none
  | _ => none

/-- The cells of a new block: a nil slice there is given a token of its own (behind the block). -/
def tokCells : Nat → List AVal → List AVal × Heap
  | _, [] => ([], [])
  | id, .slice [] .nil :: r => let (a, b) := tokCells (id + 1) r; (.slice [] (.own id) :: a, .front 0 0 :: b)
  | id, v :: r => let (a, b) := tokCells id r; (v :: a, b)

/-- A new block: its address, and the heap. -/
def anew (n : Nat) (h : Heap) (v : AVal) : Option (AVal × Heap) :=
  let vs := v.cells
  if vs.length = n ∧ vs.all AVal.cellOk then
    let (cs, fs) := tokCells (h.length + 1) vs
    some (.ptr h.length 0, h ++ (.cells cs :: fs))
  else none

/-- A slice as rows. -/
def arowsS (sz : Nat) (h : Heap) : AVal → Option (List (List AVal))
  | .slice rows _ => if rows.all fun r => r.length == sz then some rows else none
  | .mslice id off len sz' => match getBlk h id with
    | some cs => if sz' = sz ∧ off + len * sz ≤ cs.length then (match pureRow ((cs.drop off).take (len * sz)) with | some row => some (rowsOf len sz row) | none => none) else none
    | none => none
  | _ => none

/-- append: the slice has its token, and is the longest that has it. -/
def aappend (sz bytes : Nat) (h : Heap) (s x : AVal) : Option (AVal × Heap) :=
  match s, arowsS sz h x with
  | .slice rows (.own id), some new =>
    match h[id]? with
    | some (.front n sz') =>
      if rows.length = n ∧ (sz' = sz ∨ n = 0 ∧ sz' = 0) ∧ (n + new.length) * bytes ≤ 140737488355328 ∧ n + new.length ≤ 140737488355328
      then (if new.length = 0 then some (.slice rows (.own id), h) else some (.slice (rows ++ new) (.own id), h.set id (.front (n + new.length) sz))) else none
    | _ => none
  | .slice [] .nil, some new =>
    if new.length = 0 then some (.slice [] .nil, h) else
    if new.length * bytes ≤ 140737488355328 ∧ new.length ≤ 140737488355328 then some (.slice new (.own h.length), h ++ [.front new.length sz]) else none
  | _, _ => none

def abuild (zero : List AVal) (places : List (Nat × Nat)) (parts : List (Nat × AVal)) : Option AVal :=
  match parts with
  | [] => some (.agg zero)
  | (i, v) :: rest => match places[i]? with
    | some (off, n) => if v.isJunk = false ∧ v.cells.length = n ∧ off + n ≤ zero.length then abuild (putCells zero off v.cells) places rest else none
    | none => none

/-- A slice of literals: its cells are filled as an array's are. -/
def abuildRow (len sz : Nat) (zero : List AVal) (parts : List (Nat × AVal)) : Option (List (List AVal)) :=
  match abuild (List.replicate len zero).flatten ((List.range len).map fun i => (i * sz, sz)) parts with
  | some (.agg cs) => match pureRow cs with
    | some row => if zero.length = sz ∧ cs.all AVal.cellOk then some (rowsOf len sz row) else none
    | none => none
  | _ => none
def abuildSlice (len sz : Nat) (zero : List AVal) (parts : List (Nat × AVal)) (h : Heap) : Option (AVal × Heap) :=
  match abuildRow len sz zero parts with
  | some rows => some (.slice rows (.own h.length), h ++ [.front len sz])
  | none => none
/-- The same at a reserved place. -/
def abuildSliceAt (id len sz : Nat) (zero : List AVal) (parts : List (Nat × AVal)) (h : Heap) : Option (AVal × Heap) :=
  match h[id]?, abuildRow len sz zero parts with
  | some .free, some rows => some (.slice rows (.own id), h.set id (.front len sz))
  | _, _ => none

def amakeSlice (sz bytes : Nat) (zero : List AVal) (len : AVal) (h : Heap) : Option (AVal × Heap) :=
  match len with
  | .int _ n => if 0 ≤ n ∧ n.toNat * bytes ≤ 140737488355328 ∧ n ≤ 140737488355328
      then some (.mslice h.length 0 n.toNat sz, h ++ [.cells (List.replicate n.toNat zero).flatten]) else none
  | _ => none

/-- copy: into mutable memory. -/
def acopy (sz : Nat) (h : Heap) (d s : AVal) : Option (AVal × Heap) :=
  match d, arowsS sz h s with
  | .mslice id off len sz', some rows => match getBlk h id with
    | some cs =>
      let n := min rows.length len
      if sz' = sz ∧ off + len * sz ≤ cs.length then some (.int .i64 n, h.set id (.cells (putCells cs off (rows.take n).flatten))) else none
    | none => none
  | _, _ => none

def bytesOf : List (List AVal) → Option (List UInt8)
  | [] => some []
  | [.int .u8 n] :: r => match bytesOf r with
    | some bs => some (UInt8.ofNat n.toNat :: bs)
    | none => none
  | _ => none
def abytesStr (x : AVal) : Option AVal :=
  match x with
  | .slice rows _ => (bytesOf rows).map .str
  | _ => none

/-- Where a byte is first. -/
def aindexByte : List UInt8 → UInt8 → Int
  | [], _ => -1
  | b :: l, c => if b == c then 0 else if aindexByte l c == -1 then -1 else aindexByte l c + 1

def extV : ExtK → List AVal → Option AVal
  | .indexByte, [.str s, .int .u8 c] => some (.int .i64 (aindexByte s (UInt8.ofNat c.toNat)))
  | _, _ => none

/-! ### Maps: keys are scalars -/

def akeyFor : TypeDesc → AVal → Bool
  | .int k, .int k' _ => k == k'
  | .string, .str _ => true
  | .bool, .bool _ => true
  | _, _ => false
def akeyOk : AVal → Bool
  | .int _ _ | .str _ | .bool _ => true
  | _ => false

def afind (k : AVal) : List (AVal × AVal) → Option (Option AVal)
  | [] => some none
  | (k', v) :: r => match aeq1 k k' with
    | some true => some (some v)
    | some false => afind k r
    | none => none

def aputMap (k v : AVal) : List (AVal × AVal) → List (AVal × AVal)
  | [] => [(k, v)]
  | (k', v') :: r => match aeq1 k k' with
    | some true => (k', v) :: r
    | _ => (k', v') :: aputMap k v r

def adelMap (k : AVal) : List (AVal × AVal) → List (AVal × AVal)
  | [] => []
  | (k', v') :: r => match aeq1 k k' with
    | some true => r
    | _ => (k', v') :: adelMap k r

def getMap (h : Heap) : AVal → Option (List (AVal × AVal))
  | .nilmap => some []
  | .map id => match h[id]? with
    | some (.map es) => some es
    | _ => none
  | _ => none

def alookup (zero : AVal) (ok : Bool) (h : Heap) (m k : AVal) : Option AVal :=
  match getMap h m with
  | some es => match afind k es with
    | some (some v) => some (bif ok then .tuple [v, .bool true] else v)
    | some none => some (bif ok then .tuple [zero, .bool false] else zero)
    | none => none
  | none => none

def amapSet (h : Heap) (m k v : AVal) : Option Heap :=
  match m with
  | .map id => match h[id]? with
    | some (.map es) => match afind k es with
      | some _ => some (h.set id (.map (aputMap k v es)))
      | none => none
    | _ => none
  | _ => none

def amapDel (h : Heap) (m k : AVal) : Option Heap :=
  match m with
  | .nilmap => if akeyOk k then some h else none
  | .map id => match h[id]? with
    | some (.map es) => if akeyOk k ∧ (afind k es).isSome then some (h.set id (.map (adelMap k es))) else none
    | _ => none
  | _ => none

def alenMap (h : Heap) (m : AVal) : Option AVal :=
  match getMap h m with
  | some es => some (.int .i64 es.length)
  | none => none

end Hk
