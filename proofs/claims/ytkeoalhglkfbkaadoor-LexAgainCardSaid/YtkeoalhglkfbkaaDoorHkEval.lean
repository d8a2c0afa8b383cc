/-
  THE ABSTRACT INTERPRETER: regions, code, functions.
-/
import Derived.Test.YtkeoalhglkfbkaaDoorHkAbs
set_option linter.unusedVariables false
set_option linter.unusedSimpArgs false
namespace Hk
open Go

/-! ### Which temporaries a piece of code reads before it has written them, and which it has written when it ends normally (bits) -/

def bitOf (t : Nat) : Nat := 1 <<< t
def operBits (o : Oper) : Nat := o.op.operands.toList.foldl (fun m x => match x with | .tmp t => m ||| bitOf t | _ => m) 0
def dstBit (o : Oper) : Nat := match o.dst with | some d => bitOf d | none => 0
def udOps (full : Nat) : List Oper → Nat × Nat → Nat × Nat
  | [], a => a
  | o :: r, (u, d) => udOps full r (u ||| (operBits o &&& (full ^^^ d)), d ||| dstBit o)

def hasExit (id : Nat) : Code → Bool
  | .exit j => j == id
  | .seq a b | .cond _ a b => hasExit id a || hasExit id b
  | .block _ c | .loop c => hasExit id c
  | _ => false
/-- May the code be left, but by its end? -/
def leaves : List Nat → Code → Bool
  | ids, .exit j => !(ids.contains j)
  | ids, .seq a b | ids, .cond _ a b => leaves ids a || leaves ids b
  | ids, .block id c => leaves (id :: ids) c
  | ids, .loop c => leaves ids c
  | _, .skip | _, .region _ _ _ => false
  | _, _ => true
def opPanics (o : Oper) : Bool := match o.op with | .panic _ => true | _ => false
def falls : Code → Bool
  | .skip => true
  | .region _ ops _ => !(ops.toList.any opPanics)
  | .seq a b => falls a && falls b
  | .cond _ a b => falls a || falls b
  | .block id c => falls c || hasExit id c
  | _ => false

/-- How often what follows a block would be told. -/
def nSites (id : Nat) : Code → Nat
  | .exit j => bif j == id then 1 else 0
  | .seq a b => nSites id a + nSites id b
  | .cond _ a b => bif falls a && falls b then (bif leaves [] a || leaves [] b then 1 else 0) else nSites id a + nSites id b
  | .block j c => bif decide (2 ≤ nSites j c + bif falls c then 1 else 0) then 1 else nSites id c
  | .loop _ => 1
  | _ => 0

/-- (read first, written for sure) -/
def ud (full : Nat) : Code → Nat × Nat
  | .skip => (0, 0)
  | .region _ ops _ => udOps full ops.toList (0, 0)
  | .seq a b => let (u, d) := ud full a; let (u', d') := ud full b; (u ||| (u' &&& (full ^^^ d)), d ||| d')
  | .cond c a b => let (u, d) := ud full a; let (u', d') := ud full b
    ((match c with | .tmp t => bitOf t | _ => 0) ||| u ||| u', (bif falls a then d else full) &&& (bif falls b then d' else full))
  | .block id c => let (u, d) := ud full c; (u, bif hasExit id c then 0 else d)
  | .loop c => ((ud full c).1, full)
  | _ => (0, full)
def ue (full : Nat) (c : Code) : Nat := (ud full c).1

/-! ### Packing the live temporaries -/

def packFrom (L : Nat) : Nat → List AVal → List AVal
  | _, [] => []
  | i, v :: r => bif L.testBit i then v :: packFrom L (i + 1) r else packFrom L (i + 1) r
def pack (L : Nat) (ρ : List AVal) : List AVal := packFrom L 0 ρ
def unpackFrom (L : Nat) (x : List AVal) : Nat → Nat → Nat → List AVal
  | 0, _, _ => []
  | n + 1, i, j => bif L.testBit i then x.getD j .junk :: unpackFrom L x n (i + 1) (j + 1) else .junk :: unpackFrom L x n (i + 1) j
def unpack (n L : Nat) (x : List AVal) : List AVal := unpackFrom L x n 0 0

/-! ### Combinators -/

def Ex.thenDo (e : Ex) (kn : Option R) (ke : Ex → Option R) : Option R :=
  match e with
  | .normal => kn
  | e => ke e
def Ex.nrm (e : Ex) (kn : Option R) : Option R :=
  match e with
  | .normal => kn
  | _ => none
def Ex.inBlock (id : Nat) (e : Ex) (kn : Option R) (ke : Ex → Option R) : Option R :=
  match e with
  | .normal => kn
  | .exit j => bif j == id then kn else ke (.exit j)
  | e => ke e
def bindRes (x : Option (Res × Heap)) (kv kp : AVal → Heap → Option R) : Option R :=
  x.bind fun r => match r.1 with
    | .ret v => kv v r.2
    | .pan v => kp v r.2
def bindVH (x : Option (AVal × Heap)) (k : AVal → Heap → Option R) : Option R := x.bind fun r => k r.1 r.2
def acond (v : AVal) (t e : Option R) : Option R :=
  match v with
  | .bool b => bif b then t else e
  | _ => none

/-! ### What the types of the program say -/

def isAggT (P : Program) (t : TypeId) : Option Bool :=
  match P.underlying t with
  | some (.struct _) | some (.array _ _) => some true
  | some _ => some false
  | none => none
def sizeT (P : Program) (t : TypeId) : Option Nat := (P.info? t).map (·.size)
def bytesT (P : Program) (t : TypeId) : Option Nat := (P.info? t).map (·.bytes)
def zeroT (P : Program) (t : TypeId) : Option AVal := (P.info? t).bind fun i => i.zero.map ofConst
/-- '==' on this type is '==' of all its cells, in their order: their kinds. -/
def eqKindsFs (P : Program) (eqT : TypeId → Option (List Kd)) : List Field → Nat → Option (List Kd)
  | [], _ => some []
  | f :: r, off => bif f.name == "_" || f.offset != off then none else match eqT f.type with
    | some ks => bif sizeT P f.type == some ks.length && ks.length != 0 then match eqKindsFs P eqT r (off + ks.length) with
        | some l => some (ks ++ l)
        | none => none
      else none
    | none => none
def eqKinds (P : Program) : Nat → TypeId → Option (List Kd)
  | 0, _ => none
  | d + 1, t => match P.underlying t with
    | some .bool => some [.b]
    | some (.int _) => some [.i]
    | some .string => some [.s]
    | some (.struct fs) => bif P.stoodInHeld t then none else eqKindsFs P (eqKinds P d) fs.toList 0
    | _ => none
def eqStruct (P : Program) (t : TypeId) : Option (List Kd) :=
  match eqKinds P 12 t with
  | some ks => bif P.eqGuardType P.depth t then none else some ks
  | none => none

/-! ### The orders of a region -/

def nilConst : Operand → Bool
  | .const (.slice none 0 0) => true
  | _ => false
/-- Does the operation act on the heap (or may it panic on purpose)? -/
def isEff (o : Oper) : Bool :=
  match o.op with
  | .alloc _ | .box .. | .buildSlice .. | .makeSlice .. | .makeMap .. | .store .. | .mapUpdate .. | .insert .. | .panic _ => true
  | .assign x => nilConst x
  | .call c => match c.callee with
    | .builtin .len | .builtin .cap | .builtin .min | .builtin .max => false
    | _ => true
  | _ => false
def isRead (o : Oper) : Option Operand :=
  match o.op with
  | .load _ a => some a
  | .lookup _ m _ _ => some m
  | _ => none
def closFrom : List Oper → List Nat → List Nat
  | [], acc => acc
  | o :: r, acc => closFrom r (acc ++ [o.after.toList.foldl (fun m e => bif Region.binds .any e then m ||| bitOf e.on ||| acc.getD e.on 0 else m) 0])
def clos (ops : List Oper) : List Nat := closFrom ops []
def subMask (a b : Nat) : Bool := (a &&& b) == a

def pickOp (ok : Nat → Bool) (cl : List Nat) (done : Nat) : List Nat → Option Nat
  | [] => none
  | i :: r => bif !(done.testBit i) && subMask (cl.getD i 0) done && ok i then some i else pickOp ok cl done r
def orderGo (ops : List Oper) (cl : List Nat) (n : Nat) : Nat → Nat → List Nat
  | 0, _ => []
  | fuel + 1, done =>
    let light (i : Nat) : Bool := match ops[i]? with | some o => !(isEff o) | none => false
    match pickOp light cl done (List.range n) with
    | some i => i :: orderGo ops cl n fuel (done ||| bitOf i)
    | none => match pickOp (fun _ => true) cl done (List.range n) with
      | some i => i :: orderGo ops cl n fuel (done ||| bitOf i)
      | none => []

/-- One item of a region's run: the operation, and which reads ahead of it lie open against it. -/
structure Item where
  i : Nat
  o : Oper
  locks : List Nat

def itemsFrom (ops : List Oper) (cl : List Nat) : List Nat → List Nat → List Item
  | [], _ => []
  | i :: r, before => match ops[i]? with
    | some o =>
      { i, o, locks := bif isEff o then before.filter (fun p => !((cl.getD i 0).testBit p) && match ops[p]? with | some q => (isRead q).isSome | none => false) else [] } ::
        itemsFrom ops cl r (before ++ [i])
    | none => []

def opTmps (o : Oper) : List Tmp := o.op.operands.toList.filterMap fun x => match x with | .tmp t => some t | _ => none
def gTmp (ops : List Oper) (o : Oper) : Option Tmp := match o.guard with
  | some (j, _) => (ops[j]?).bind (·.dst)
  | none => none
def looksL (ops : List Oper) (o : Oper) : List Tmp := opTmps o ++ (gTmp ops o).toList
def offL (d : Option Tmp) (ts : List Tmp) : Bool := match d with
  | some d => !(ts.contains d)
  | none => true
def apartL (ops : List Oper) (x y : Oper) : Bool :=
  offL x.dst (looksL ops y) && offL y.dst (looksL ops x) && offL x.dst y.dst.toList
/-- 'p' may come after 'it' as well. -/
def indep (ops : List Oper) (p it : Item) : Bool :=
  !(isEff p.o) && p.locks.isEmpty && apartL ops p.o it.o && (!((isRead p.o).isSome) || !(isEff it.o) || it.locks.contains p.i)
def pairOk (ops : List Oper) (cl : List Nat) (p it : Item) : Bool :=
  (p.i != it.i) && !((cl.getD p.i 0).testBit it.i) && ((cl.getD it.i 0).testBit p.i || indep ops p it)
def pairsOk (ops : List Oper) (cl : List Nat) : List Item → Bool
  | [] => true
  | p :: r => r.all (pairOk ops cl p) && pairsOk ops cl r
/-- All edges go backwards. -/
def edgesOk (ops : List Oper) : Bool :=
  (ops.zipIdx).all fun (o, i) => o.after.toList.all fun e => !(Region.binds .any e) || decide (e.on < i)
def itemAt (ops : List Oper) (it : Item) : Option Oper := ops[it.i]?

def orderOf (ops : List Oper) : List Nat := orderGo ops (clos ops) ops.length ops.length 0
def drawnItems (ops : List Oper) : Option (List Item) :=
  let items := itemsFrom ops (clos ops) (orderOf ops) []
  bif pairsOk ops (clos ops) items && edgesOk ops && (items.length == ops.length) && (List.range ops.length).all (fun i => items.any fun it => it.i == i) then some items else none
def plainItems (ops : List Oper) : List Item := ops.zipIdx.map fun (o, i) => { i, o, locks := [] }

/-! ### One operation -/

def addrId : AVal → Option Nat
  | .ptr id _ => some id
  | .map id => some id
  | _ => none
def lockIds (locks : List Nat) (seen : List AVal) : List Nat := locks.filterMap fun j => addrId (seen.getD j .junk)
def hide1 (h : Heap) (id : Nat) : Heap :=
  match h[id]? with
  | some (.cells _) | some (.map _) => h.set id .gone
  | _ => h
def unhide1 (h : Heap) (r : Heap) (id : Nat) : Heap :=
  match h[id]? with
  | some (.cells cs) => r.set id (.cells cs)
  | some (.map es) => r.set id (.map es)
  | _ => r
def hide (ids : List Nat) (h : Heap) : Heap := ids.foldl hide1 h
def unhide (ids : List Nat) (h h' : Heap) : Heap := ids.foldl (unhide1 h) h'

structure Cx where
  P : Program
  A : Ann
  K : CallO
  lp : (List AVal × Heap → Option R) → List AVal × Heap → Option R
  n : Nat
  full : Nat

def acallee : AVal → Option (Nat × List AVal × List AVal)
  | .func f first cap => some (f, first, cap)
  | _ => none

def anilCheck : AVal → Option AVal
  | .ptr id off => some (.ptr id off)
  | .pptr cs => some (.pptr cs)
  | .func f a b => some (.func f a b)
  | _ => none

/-- A new block at a reserved place. -/
def anewAt (id n : Nat) (h : Heap) (v : AVal) : Option (AVal × Heap) :=
  let vs := v.cells
  match h[id]? with
  | some .free => if vs.length = n ∧ vs.all AVal.cellOk ∧ (tokCells (id + 1) vs).2.length = 0 then some (.ptr id 0, h.set id (.cells vs)) else none
  | _ => none
def argsFor (A : Ann) (f : Nat) (vs : List AVal) : List AVal := bif A.grow f then vs else vs.map AVal.untok

def apanic (x : AVal) (h : Heap) (kp : AVal → Heap → Option R) : Option R :=
  match x with
  | .iface t w => kp (.iface t w) h
  | _ => none

def elemT (P : Program) (t : TypeId) : Option TypeId :=
  match P.underlying t with
  | some (.slice e) => some e
  | _ => none

def extC (k : ExtK) (args : List AVal) (h : Heap) : Option (Res × Heap) := (extV k args).map fun v => (.ret v, h)
def callE (A : Ann) (K : CallO) (f : Nat) (args : List AVal) (h : Heap) : Option (Res × Heap) :=
  match A.ext f with
  | some k => extC k args h
  | none => K f args h
/-- Two operands that tell the same number. -/
def sameOp : Operand → Operand → Bool
  | .tmp a, .tmp b => a == b
  | .const (.int _ a), .const (.int _ b) => a == b
  | _, _ => false

def builtinOp (cx : Cx) (b : Builtin) (argTypes : List TypeId) (args : List AVal) (h : Heap) (kv : AVal → Heap → Option R) : Option R :=
  match b, argTypes, args with
  | .len, [t], [x] => match cx.P.underlying t with
    | some (.array n _) => kv (.int .i64 n) h
    | some .string => (alenStr x).bind fun w => kv w h
    | some (.slice _) => (alenSl x).bind fun w => kv w h
    | _ => none
  | .min, _, [x, y] => (amin2 x y).bind fun w => kv w h
  | .max, _, [x, y] => (amax2 x y).bind fun w => kv w h
  | .append, [t, t'], [s, x] => match elemT cx.P t with
    | some e => bif t != t' then none else match sizeT cx.P e, bytesT cx.P e, zeroT cx.P e with
      | some sz, some by_, some z => bif sz == 0 || z.isJunk || z.cells.length != sz then none else bindVH (aappend sz by_ h s x) kv
      | _, _, _ => none
    | none => none
  | _, _, _ => none

/-- One operation, on the heap at hand; 'rsv': where its memory is to lie. -/
def evalOpV (cx : Cx) (o : Oper) (rsv : Option Nat) (v : Operand → AVal) (h : Heap) (kv : AVal → Heap → Option R) (kp : AVal → Heap → Option R) : Option R :=
  match o.op with
  | .move x => kv (v x) h
  | .assign x => bif nilConst x then kv (.slice [] (.own h.length)) (h ++ [.front 0 0]) else kv (v x) h
  | .pick c a b => (apick (v c) (v a) (v b)).bind fun w => kv w h
  | .alloc t => match sizeT cx.P t, zeroT cx.P t with
    | some n, some z => match rsv with
      | none => bindVH (anew n h z) kv
      | some id => bindVH (anewAt id n h z) kv
    | _, _ => none
  | .box t x => match sizeT cx.P t with
    | some n => match rsv with
      | none => bindVH (anew n h (v x)) kv
      | some id => bindVH (anewAt id n h (v x)) kv
    | none => none
  | .build t parts => match zeroT cx.P t, cx.P.underlying t with
    | some z, some (.struct fs) =>
      match fs.toList.mapM (fun f => (sizeT cx.P f.type).map fun n => (f.offset, n)) with
      | some places => bif z.isJunk then none else (abuild z.cells places (parts.toList.map fun p => (p.1, v p.2))).bind fun w => kv w h
      | none => none
    | some z, some (.array len e) => match sizeT cx.P e with
      | some n => bif z.isJunk then none else (abuild z.cells ((List.range len).map fun i => (i * n, n)) (parts.toList.map fun p => (p.1, v p.2))).bind fun w => kv w h
      | none => none
    | _, _ => none
  | .buildSlice t len parts => match elemT cx.P t with
    | some e => match sizeT cx.P e, zeroT cx.P e with
      | some n, some z => bif n == 0 || z.isJunk || decide (len * n > 16777216) then none else match rsv with
        | none => bindVH (abuildSlice len n z.cells (parts.toList.map fun p => (p.1, v p.2)) h) kv
        | some id => bindVH (abuildSliceAt id len n z.cells (parts.toList.map fun p => (p.1, v p.2)) h) kv
      | _, _ => none
    | none => none
  | .load t a => match isAggT cx.P t, sizeT cx.P t with
    | some g, some n => (aload g n h (v a)).bind fun w => kv w h
    | _, _ => none
  | .store t a x => match sizeT cx.P t with
    | some n => (astore n h (v a) (v x)).bind fun h' => kv (.tuple []) h'
    | none => none
  | .nilCheck x => (anilCheck (v x)).bind fun w => kv w h
  | .binOp op t x y _ => match op, cx.P.underlying t with
    | .eql, some (.struct _) => match eqStruct cx.P t with
      | some ks => (aeqAgg ks (v x) (v y)).bind fun b => kv (.bool b) h
      | none => none
    | .neq, some (.struct _) => match eqStruct cx.P t with
      | some ks => (aeqAgg ks (v x) (v y)).bind fun b => kv (.bool (!b)) h
      | none => none
    | _, some .bool => (abinB op (v x) (v y)).bind fun w => kv w h
    | _, some (.int _) | _, some .string => (abin op (v x) (v y)).bind fun w => kv w h
    | _, _ => none
  | .unOp op _ x => (aun op (v x)).bind fun w => kv w h
  | .convert s d x => match cx.P.underlying s, cx.P.underlying d with
    | some (.int _), some (.int k) => (aconvInt k (v x)).bind fun w => kv w h
    | some (.slice e), some .string => match cx.P.underlying e with
      | some (.int .u8) => (abytesStr (v x)).bind fun w => kv w h
      | _ => none
    | _, _ => none
  | .makeMap _ none => kv (.map h.length) (h ++ [.map []])
  | .makeSlice t l c => match elemT cx.P t with
    | some e => match sizeT cx.P e, bytesT cx.P e, zeroT cx.P e with
      | some n, some by_, some z => bif n == 0 || z.isJunk || z.cells.length != n || !(z.cells.all AVal.cellOk) || !(sameOp l c) then none else bindVH (amakeSlice n by_ z.cells (v l) h) kv
      | _, _, _ => none
    | none => none
  | .lookup t m k ok => match cx.P.underlying t with
    | some (.map kt e) => match cx.P.underlying kt, zeroT cx.P e with
      | some d, some z => bif akeyFor d (v k) then (alookup z ok h (v m) (v k)).bind fun w => kv w h else none
      | _, _ => none
    | _ => none
  | .mapUpdate t m k x => match cx.P.underlying t with
    | some (.map kt _) => match cx.P.underlying kt with
      | some d => bif akeyFor d (v k) then (amapSet h (v m) (v k) (v x)).bind fun h' => kv (.tuple []) h' else none
      | none => none
    | _ => none
  | .makeInterface t x => match cx.P.underlying t with
    | some (.interface _) => none
    | some _ => kv (.iface t (v x)) h
    | none => none
  | .makeFunc (.func f) first cap => kv (.func f (first.toList.map v) (cap.toList.map v)) h
  | .slice t x lo hi none => match cx.P.underlying t with
    | some .string => (asliceStr (v x) (lo.map v) (hi.map v)).bind fun w => kv w h
    | some (.slice e) => match sizeT cx.P e with
      | some n => (asliceSl n (v x) (lo.map v) (hi.map v)).bind fun w => kv w h
      | none => none
    | _ => none
  | .fieldAddr s x f => match cx.P.underlying s with
    | some (.struct fs) => match fs[f]? with
      | some fd => match sizeT cx.P fd.type with
        | some (_ + 1) => (afieldAt fd.offset (v x)).bind fun w => kv w h
        | _ => none
      | none => none
    | _ => none
  | .field t x f => match cx.P.underlying t with
    | some (.struct fs) => match fs[f]? with
      | some fd => match isAggT cx.P fd.type, sizeT cx.P fd.type with
        | some g, some n => (afield g n fd.offset (v x)).bind fun w => kv w h
        | _, _ => none
      | none => none
    | _ => none
  | .indexAddr t x i => match cx.P.underlying t with
    | some (.slice e) => match sizeT cx.P e with
      | some (n + 1) => (aindexSl (n + 1) (v x) (v i)).bind fun w => kv w h
      | _ => none
    | some (.array len e) => match sizeT cx.P e with
      | some (n + 1) => (aindexAt len (n + 1) (v x) (v i)).bind fun w => kv w h
      | _ => none
    | _ => none
  | .index t x i => match cx.P.underlying t with
    | some .string => (aindexStr (v x) (v i)).bind fun w => kv w h
    | some (.array len e) => match isAggT cx.P e, sizeT cx.P e with
      | some g, some n => (aindexArr g len n (v x) (v i)).bind fun w => kv w h
      | _, _ => none
    | _ => none
  | .extract x i => (aextract i (v x)).bind fun w => kv w h
  | .panic x => apanic (v x) h kp
  | .call c => match c.callee with
    | .builtin b => builtinOp cx b c.argTypes.toList (c.args.toList.map v) h kv
    | .value f => (acallee (v f)).bind fun g => bindRes (callE cx.A cx.K g.1 (argsFor cx.A g.1 (g.2.1 ++ c.args.toList.map v ++ g.2.2)) h) kv kp
    | _ => none
  | _ => none

def evalOp (cx : Cx) (o : Oper) (rsv : Option Nat) (ρ : List AVal) (h : Heap) (kv : AVal → Heap → Option R) (kp : AVal → Heap → Option R) : Option R := evalOpV cx o rsv (aval cx.A ρ) h kv kp

def putSlot (ρ : List AVal) (dst : Option Tmp) (v : AVal) : List AVal :=
  match dst with
  | some d => ρ.set d v
  | none => ρ

/-- An operation behind its locks. -/
def evalLocked (cx : Cx) (o : Oper) (ids : List Nat) (ρ : List AVal) (h : Heap) (kv : AVal → Heap → Option R) (kp : AVal → Heap → Option R) : Option R :=
  evalOp cx o none ρ (hide ids h) (fun v h' => kv v (unhide ids h h')) (fun v h' => kp v (unhide ids h h'))

/-- What is done with one answer. -/
def fin0 (kv kp : AVal → Heap → Option R) : R → Option R
  | (.normal, [v], h) => kv v h
  | (.pan v, _, h) => kp v h
  | _ => none
def kv0 (v : AVal) (h : Heap) : Option R := some (.normal, [v], h)
def kp0 (v : AVal) (h : Heap) : Option R := some (.pan v, [], h)

def guardSel (want : Bool) (g : AVal) (run skip : Option R) : Option R :=
  match g with
  | .bool g => bif want then (bif g then run else skip) else (bif g then skip else run)
  | .tuple [] => skip
  | _ => none

def evalItem (cx : Cx) (ops : List Oper) (o : Oper) (ids : List Nat) (ρ : List AVal) (h : Heap) (kv : AVal → Heap → Option R) (kp : AVal → Heap → Option R) : Option R :=
  match o.guard with
  | none => evalLocked cx o ids ρ h kv kp
  | some (j, want) => match (ops[j]?).bind (·.dst) with
    | some d => (guardSel want (ρ.getD d .junk) (evalLocked cx o ids ρ h kv0 kp0) (kv0 (.tuple []) h)).bind (fin0 kv kp)
    | none => none

def seenAt (A : Ann) (o : Oper) (ρ : List AVal) : AVal := match isRead o with
  | some a => aval A ρ a
  | none => .junk

/-- A region's run. 'seen': the addresses of the reads so far, by their numbers. -/
def evalItems (cx : Cx) (ops : List Oper) : List Item → List AVal → List AVal → Heap → (List AVal → Heap → Option R) → (AVal → Heap → Option R) → Option R
  | [], _, ρ, h, k, _ => k ρ h
  | it :: rest, seen, ρ, h, k, kp =>
    evalItem cx ops it.o (lockIds it.locks seen) ρ h (fun v h' => evalItems cx ops rest (seen.set it.i (seenAt cx.A it.o ρ)) (putSlot ρ it.o.dst v) h' k kp) kp

def evalRegion (cx : Cx) (ops : List Oper) (draw : Bool) (ρ : List AVal) (h : Heap) (k : List AVal → Heap → Option R) : Option R :=
  match draw with
  | false => evalItems cx ops (plainItems ops) [] ρ h k fun _ _ => none
  | true => match drawnItems ops with
    | some items => evalItems cx ops items (List.replicate ops.length .junk) ρ h k fun _ _ => none
    | none => none

def packN (L : Nat) (ρ : List AVal) (h : Heap) : Option R := some (.normal, pack L ρ, h)
def packE (L : Nat) (e : Ex) (ρ : List AVal) (h : Heap) : Option R := some (e, pack L ρ, h)
/-- The end of a loop's round. -/
def endR (m : Nat) (e : Ex) (vs : List AVal) (h : Heap) : Option R := (trunc m h).map fun h' => (e, vs.map (·.san m h), h')
def endRound (m L : Nat) (e : Ex) (ρ : List AVal) (h : Heap) : Option R := endR m e (pack L ρ) h

def evalCode (cx : Cx) : Code → Nat → List AVal → Heap → (List AVal → Heap → Option R) → (Ex → List AVal → Heap → Option R) → Option R
  | .skip, _, ρ, h, kn, _ => kn ρ h
  | .region _ ops draw, _, ρ, h, kn, _ => evalRegion cx ops.toList draw ρ h kn
  | .seq a b, L, ρ, h, kn, ke => evalCode cx a (L ||| ue cx.full b) ρ h (fun ρ' h' => evalCode cx b L ρ' h' kn ke) ke
  | .cond c a b, L, ρ, h, kn, ke =>
    bif falls a && falls b then
      (acond (aval cx.A ρ c) (evalCode cx a L ρ h (packN L) (packE L)) (evalCode cx b L ρ h (packN L) (packE L))).bind fun r =>
        bif leaves [] a || leaves [] b then r.1.thenDo (kn (unpack cx.n L r.2.1) r.2.2) fun e => ke e (unpack cx.n L r.2.1) r.2.2
        else r.1.nrm (kn (unpack cx.n L r.2.1) r.2.2)
    else acond (aval cx.A ρ c) (evalCode cx a L ρ h kn ke) (evalCode cx b L ρ h kn ke)
  | .block id c, L, ρ, h, kn, ke =>
    bif decide (2 ≤ nSites id c + bif falls c then 1 else 0) then
      (evalCode cx c L ρ h (packN L) (packE L)).bind fun r => r.1.inBlock id (kn (unpack cx.n L r.2.1) r.2.2) fun e => ke e (unpack cx.n L r.2.1) r.2.2
    else evalCode cx c L ρ h kn fun e ρ' h' => e.inBlock id (kn ρ' h') fun e => ke e ρ' h'
  | .loop c, L, ρ, h, _, ke =>
    (cx.lp (fun s => evalCode cx c (L ||| ue cx.full c) (unpack cx.n (L ||| ue cx.full c) s.1) s.2 (endRound h.length (L ||| ue cx.full c) .normal) (endRound h.length (L ||| ue cx.full c)))
        (pack (L ||| ue cx.full c) ρ, h)).bind
      fun r => r.1.thenDo none fun e => ke e (unpack cx.n (L ||| ue cx.full c) r.2.1) r.2.2
  | .exit id, _, ρ, h, _, ke => ke (.exit id) ρ h
  | .ret, _, ρ, h, _, ke => ke .ret ρ h
  | _, _, _, _, _, _ => none

def resBits (fn : Func) : Nat := fn.results.toList.foldl (fun m r => match r with | .tmp t => m ||| bitOf t | .cell a _ => m ||| bitOf a) 0

def aresult (P : Program) (ρ : List AVal) (h : Heap) : ResultVar → Option AVal
  | .tmp t => some (ρ.getD t .junk)
  | .cell a t => match isAggT P t, sizeT P t with
    | some g, some n => aload g n h (ρ.getD a .junk)
    | _, _ => none

/-- The results, one behind the other. -/
def aresults (P : Program) (ρ : List AVal) (h : Heap) : List ResultVar → (List AVal → Option (Res × Heap)) → Option (Res × Heap)
  | [], k => k []
  | .tmp t :: r, k => aresults P ρ h r fun vs => k (ρ.getD t .junk :: vs)
  | .cell a t :: r, k => match isAggT P t, sizeT P t with
    | some g, some n => (aload g n h (ρ.getD a .junk)).bind fun v => aresults P ρ h r fun vs => k (v :: vs)
    | _, _ => none

def oneOf : List AVal → AVal
  | [v] => v
  | vs => .tuple vs

/-- A function's end: nothing of its memory is left. -/
def finR (m : Nat) (v : AVal) (h : Heap) : Option (Res × Heap) := (trunc m h).map fun h' => (.ret (v.san m h).untok, h')
/-- The same, where the answer may be appended to. -/
def finG (m : Nat) (v : AVal) (h : Heap) : Option (Res × Heap) := (trunc m h).map fun h' => (.ret (v.san m h), h')
def finish (A : Ann) (f : Nat) (m : Nat) (v : AVal) (h : Heap) : Option (Res × Heap) :=
  bif A.esc f then some (.ret v, h) else bif A.grow f then finG m v h else finR m v h

def Ex.endF (e : Ex) (x : Option (Res × Heap)) : Option (Res × Heap) :=
  match e with
  | .normal => x
  | .ret => x
  | _ => none
def endFn (P : Program) (A : Ann) (f : Nat) (fn : Func) (m : Nat) (e : Ex) (ρ : List AVal) (h : Heap) : Option (Res × Heap) :=
  e.endF (aresults P ρ h fn.results.toList fun vs => finish A f m (oneOf vs) h)

def evalFn (P : Program) (A : Ann) (K : CallO) (lp : (List AVal × Heap → Option R) → List AVal × Heap → Option R) (f : Nat) (fn : Func) (c : Code) (args : List AVal) (h : Heap) : Option (Res × Heap) :=
  (evalCode { P, A, K, lp, n := fn.ntmps, full := 2 ^ fn.ntmps - 1 } c (resBits fn)
      (args ++ List.replicate (fn.ntmps - args.length) (.tuple [])) h (packN (resBits fn)) (packE (resBits fn))).bind
    fun r => endFn P A f fn h.length r.1 (unpack fn.ntmps (resBits fn) r.2.1) r.2.2

def loopN : Nat → (List AVal × Heap → Option R) → List AVal × Heap → Option R
  | 0, _, _ => none
  | n + 1, F, s => (F s).bind fun r => r.1.thenDo (loopN n F r.2) fun e => some (e, r.2)

/-- A function that is run on its arguments alone. -/
def callP (A : Ann) (K : CallO) : CallO := fun f args h =>
  bif A.pure f then (bif args.all (AVal.shut1 0) then (K f args []).bind fun r => match r.1, r.2 with
    | .ret v, [] => some (.ret v, h)
    | _, _ => none
    else none) else K f args h

abbrev LpT := (List AVal × Heap → Option R) → List AVal × Heap → Option R

def evB (P : Program) (A : Ann) (lp : LpT) (K : CallO) (f : Nat) (args : List AVal) (h : Heap) : Option (Res × Heap) :=
  match P.funcs[f]? with
  | some fn => match fn.body with
    | some c => bif decide (args.length ≤ fn.ntmps) && !(fn.name == "runtime.NumGoroutine") then evalFn P A (callP A K) lp f fn c args h else none
    | none => none
  | none => none

def evF (P : Program) (A : Ann) (lp : LpT) : Nat → CallO
  | 0, _, _, _ => none
  | n + 1, f, args, h => evB P A lp (evF P A lp n) f args h

end Hk
