/-
  The texts Vk.Abs, Vk.Eval, Vk.Rel, Vk.Base, Vk.Pure, Vk.Pure2, Vk.Pure3, Vk.Mem, Vk.Mem2, Vk.Mem3, Vk.Mem4, Vk.Mem5, Vk.Mem6, Vk.Mem7, Vk.Mem8, Vk.Mem9, one behind another. No conditions.
-/
import Derived.WalkKit
import Derived.MapKept
import Derived.Laws.MakeOwn
import Derived.Laws.BytesString
import Derived.Lib.Bytealg
set_option linter.unusedVariables false
set_option linter.unusedSimpArgs false
set_option linter.all false
open Array renaming getD_eq_getD_getElem? → ab8, getElem?_append_left → ah0, getElem?_toList → ad5, length_toList → an6
open List renaming all_eq_true → ag3, append_assoc → al2, getD_eq_getElem?_getD → af0, getElem?_append_left → af2, getElem?_append_right → ae9, getElem?_drop → ag5, getElem?_eq_getElem → ac1, getElem?_eq_some_iff → ab2, getElem?_map → ag6, getElem?_take → af4, length_append → ac6, length_take → aj9, mem_of_getElem? → am4, replicate → ah7
open Nat renaming add_mul → ak3, add_zero → an8, le_refl → ac9, mul_le_mul_right → ag8, zero_add → al7, zero_le → ak5
open Option renaming bind_eq_some_iff → ab0, map_eq_some_iff → ac5
open Option.some renaming injEq → ab3
open Prod.mk renaming injEq → af1
namespace Hk
section
open Go
inductive Tok where
 | no | nil | own (id:Nat)
 deriving DecidableEq,Inhabited
inductive kP where
 | junk
 | bool (b:Bool)
 | int (k:IntKind) (n:Int)
 | str (s:List UInt8)
 | agg (cs:List kP)
 | tuple (vs:List kP)
 | slice (rows:List (List kP)) (tok:Tok)
 | pptr (cs:List kP)
 | ptr (id off:Nat)
 | nilptr
 | mslice (id off len sz:Nat)
 | vslice (id tot off len sz:Nat)
 | vptr (id tot off:Nat)
 | map (id:Nat)
 | nilmap
 | func (f:Nat) (first cap:List kP)
 | nilfunc
 | iface (t:Nat) (v:kP)
 | niliface
 deriving Inhabited
inductive lR where
 | free
 | gone
 | cells (cs:List kP)
 | front (n sz:Nat) (t:Nat:=0)
 | vec (tot sz:Nat) (cs:List kP)
 | map (es:List (kP×kP))
 | tcells (t:Nat) (cs:List kP)
 deriving Inhabited
abbrev kT:=List lR
inductive Ex where
 | normal | ret | exit (id:Nat) | pan (v:kP)
 deriving Inhabited
inductive n_ where
 | ret (v:kP) | pan (v:kP)
 deriving Inhabited
abbrev lE:=Nat→List kP→kT→Option (n_×kT)
abbrev R:=Ex×List kP×kT
inductive af3 where
 | indexByte
 deriving DecidableEq
inductive agH where
 | copyCheck
 | bldString (e:Nat)
 | fn (g:List kP→Option kP)
structure Cd where
 glob:Nat→Option (List kP):=fun _=>none
 esc:Nat→Bool:=fun _=>false
 grow:Nat→Bool:=fun _=>false
 pure:Nat→Bool:=fun _=>false
 ext:Nat→Option af3:=fun _=>none
 pan:Nat→Bool:=fun _=>false
 dfr:Nat→Bool:=fun _=>false
 srt:Nat→Bool:=fun _=>false
 srf:Nat→Option Nat:=fun _=>none
 vec:Nat→Bool:=fun _=>false
 frz:Nat→Bool:=fun _=>false
 vecT:Nat→Nat→Bool:=fun _ _=>false
 vmk:Nat→Bool:=fun _=>false
 jt:Nat→Bool:=fun _=>false
 sub:Nat→Bool:=fun _=>false
 out:Nat→Bool:=fun _=>false
 frr:Nat→Bool:=fun _=>false
 rb:Nat→Bool:=fun _=>false
 vlitT:Nat→Nat→Bool:=fun _ _=>false
 frl:Nat→Bool:=fun _=>false
 lkp:Nat→Bool:=fun _=>false
 tb:Nat→Bool:=fun _=>false
 tbt:Nat→Bool:=fun _=>false
 bld:Nat→Nat→Nat→Bool:=fun _ _ _=>false
 gsz:Nat→Option Nat:=fun _=>none
 prm:Nat→Option agH:=fun _=>none
 vlit:Nat→Bool:=fun _=>false
def kP.cells:kP→List kP
 | .agg cs=>cs
 | v=>[v]
def EC:Value→kP
 | .bool b=>.bool b
 | .int k n=>.int k n
 | .string s=>.str s.data.toList
 | .pointer none=>.nilptr
 | .slice none 0 0=>.slice [] .nil
 | .map none=>.nilmap
 | .nilFunc=>.nilfunc
 | .nilIface=>.niliface
 | _=>.junk
def ofConst:Value→kP
 | .agg cs=>.agg (cs.toList.map EC)
 | .tuple cs=>match cs.toList with | []=>.tuple [] | _=>.junk
 | v=>EC v
def tB (A:Cd) (ρ:List kP):Operand→kP
 | .tmp t=>ρ.getD t .junk
 | .const v=>ofConst v
 | .global g=>match A.glob g with | some cs=>.pptr cs | none=>.junk
 | .func f=>.func f [] []
def kP.CD:kP→Option kP
 | .bool b=>some (.bool b)
 | .int k n=>some (.int k n)
 | .str s=>some (.str s)
 | .slice rows _=>some (.slice rows .no)
 | .pptr cs=>some (.pptr cs)
 | .nilptr=>some .nilptr
 | .nilmap=>some .nilmap
 | .func f [] []=>some (.func f [] [])
 | .nilfunc=>some .nilfunc
 | .niliface=>some .niliface
 | _=>none
def oC:List kP→Option (List kP)
 | []=>some []
 | v::r=>match v.CD,oC r with
  | some x,some y=>some (x::y)
  | _,_=>none
def kP.pN:kP→Bool
 | .junk=>true
 | _=>false
def kP.mH:kP→Bool
 | .junk | .agg _ | .tuple _=>false
 | _=>true
def rowsOf:Nat→Nat→List kP→List (List kP)
 | 0,_,_=>[]
 | n+1,sz,cs=>cs.take sz::rowsOf n sz (cs.drop sz)
def sV:kP→Option Nat
 | .ptr id _=>some id
 | .mslice id _ _ _=>some id
 | .vslice id _ _ _ _=>some id
 | .vptr id _ _=>some id
 | .map id=>some id
 | .slice _ (.own id)=>some id
 | _=>none
def kP.rL (m:Nat):kP→Bool
 | .agg _=>false
 | .tuple _=>false
 | .iface _ _=>false
 | .func _ first cap=>first.isEmpty && cap.isEmpty
 | v=>match sV v with | some r=>decide (r < m) | none=>true
def kP.oZ (m:Nat):kP→Bool
 | .agg cs=>cs.all (kP.rL m)
 | .iface _ v=>v.rL m
 | .func _ first cap=>first.all (kP.rL m) && cap.all (kP.rL m)
 | v=>v.rL m
def kP.m_ (m:Nat) (h:kT):kP→kP
 | .slice rows (.own id)=>bif decide (id < m) then .slice rows (.own id) else .slice rows .no
 | .ptr id off=>bif decide (id < m) then .ptr id off else
   match h[id]? with
   | some (.cells cs)=>match oC (cs.drop off) with
    | some row=>.pptr row
    | none=>.junk
   | _=>.junk
 | .mslice id off len sz=>bif decide (id < m) then .mslice id off len sz else
   match h[id]? with
   | some (.cells cs)=>match oC ((cs.drop off).take (len * sz)) with
    | some row=>bif decide (off+len * sz≤cs.length) then .slice (rowsOf len sz row) .no else .junk
    | none=>.junk
   | _=>.junk
 | .vslice id tot off len sz=>bif decide (id < m) then .vslice id tot off len sz else
   match h[id]? with
   | some (.vec tot' _ cs)=>match oC ((cs.drop off).take (len * sz)) with
    | some row=>bif decide (tot=tot'∧off+len * sz≤cs.length) then .slice (rowsOf len sz row) .no else .junk
    | none=>.junk
   | _=>.junk
 | v=>bif v.oZ m then v else .junk
def kP.xR (m:Nat) (h:kT):kP→kP
 | .agg cs=>.agg (cs.map (·.m_ m h))
 | .tuple vs=>.tuple (vs.map fun v=>match v with | .agg cs=>.agg (cs.map (·.m_ m h)) | v=>v.m_ m h)
 | .iface t (.agg cs)=>.iface t (.agg (cs.map (·.m_ m h)))
 | .iface t v=>.iface t (v.m_ m h)
 | v=>v.m_ m h
def nK (m:Nat) (h:kT):List kP→Option (List kP)
 | []=>some []
 | v::r=>bif (v.m_ m h).mH then(match nK m h r with | some r'=>some (v.m_ m h::r') | none=>none) else none
def qB (m:Nat) (h:kT):lR→Option lR
 | .cells cs=>(nK m h cs).map .cells
 | .vec tot sz cs=>(nK m h cs).map (.vec tot sz)
 | .tcells t cs=>(nK m h cs).map (.tcells t)
 | .map es=>bif es.all (fun e=>e.2.oZ m) then some (.map es) else none
 | b=>some b
def nX (m:Nat) (h:kT):List lR→Option (List lR)
 | []=>some []
 | b::r=>match qB m h b,nX m h r with
  | some b',some r'=>some (b'::r')
  | _,_=>none
def mI (m:Nat) (h:kT):Option kT:=nX m h (h.take m)
def kP.tP:kP→kP
 | .slice rows _=>.slice rows .no
 | v=>v
def kP.kV:kP→kP
 | .agg cs=>.agg (cs.map kP.tP)
 | .tuple vs=>.tuple (vs.map fun v=>match v with | .agg cs=>.agg (cs.map kP.tP) | v=>v.tP)
 | v=>v.tP
def kZ (op:BinOp) (x y:kP):Option kP :=
 match x,y with
 | .int k a,.int k' b =>
  match op with
  | .shl=>if b < 0 then none else some (.int k (k.wrap (a * 2 ^ (min b.toNat k.bits))))
  | .shr=>if b < 0 then none else some (.int k (a.fdiv (2 ^ (min b.toNat k.bits))))
  | _=>if k≠k' then none else
   match op with
   | .add=>some (.int k (k.wrap (a+b)))
   | .sub=>some (.int k (k.wrap (a - b)))
   | .mul=>some (.int k (k.wrap (a * b)))
   | .quo=>if b=0 then none else some (.int k (k.wrap (a.tdiv b)))
   | .rem=>if b=0 then none else some (.int k (a.tmod b))
   | .and=>some (.int k (k.wrap (BitVec.ofInt k.bits a &&& BitVec.ofInt k.bits b).toNat))
   | .or=>some (.int k (k.wrap (BitVec.ofInt k.bits a ||| BitVec.ofInt k.bits b).toNat))
   | .xor=>some (.int k (k.wrap (BitVec.ofInt k.bits a ^^^ BitVec.ofInt k.bits b).toNat))
   | .andNot=>some (.int k (k.wrap (BitVec.ofInt k.bits a &&& ~~~ BitVec.ofInt k.bits b).toNat))
   | .eql=>some (.bool (a == b))
   | .neq=>some (.bool (a != b))
   | .lss=>some (.bool (a < b))
   | .leq=>some (.bool (a≤b))
   | .gtr=>some (.bool (a > b))
   | .geq=>some (.bool (a≥b))
   | _=>none
 | .str a,.str b =>
  match op with
  | .add=>if a.length+b.length≤4611686018427387904 then some (.str (a++b)) else none
  | .eql=>some (.bool (a == b))
  | .neq=>some (.bool (!(a == b)))
  | .lss=>some (.bool (Op.bytesLess a b))
  | .leq=>some (.bool (Op.bytesLess a b || a == b))
  | .gtr=>some (.bool (!(Op.bytesLess a b || a == b)))
  | .geq=>some (.bool (!(Op.bytesLess a b)))
  | _=>none
 | _,_=>none
def Fx (op:BinOp) (x y:kP):Option kP :=
 match op,x,y with
 | .eql,.bool a,.bool b=>some (.bool (a == b))
 | .neq,.bool a,.bool b=>some (.bool (!(a == b)))
 | _,_,_=>none
def Q8:kP→kP→Option Bool
 | .int k a,.int k' b=>if k=k' then some (a == b) else none
 | .bool a,.bool b=>some (a == b)
 | .str a,.str b=>some (a == b)
 | _,_=>none
inductive Kd where
 | b | i | s
 deriving DecidableEq
def Gx:Kd→kP→kP→Option Bool
 | .i,.int k a,.int k' b=>if k=k' then some (a == b) else none
 | .b,.bool a,.bool b=>some (a == b)
 | .s,.str a,.str b=>some (a == b)
 | _,_,_=>none
def rX:List Kd→List kP→List kP→Option Bool
 | [],[],[]=>some true
 | k::ks,x::xs,y::ys=>match Gx k x y,rX ks xs ys with
  | some a,some b=>some (a && b)
  | _,_=>none
 | _,_,_=>none
def tX (ks:List Kd):kP→kP→Option Bool
 | .agg xs,.agg ys=>rX ks xs ys
 | _,_=>none
def x8 (op:UnOp) (x:kP):Option kP :=
 match op,x with
 | .neg,.int k n=>some (.int k (k.wrap (0 - n)))
 | .xor,.int k n=>some (.int k (k.wrap (BitVec.ofInt k.bits (if k.signed then -1 else k.max) ^^^ BitVec.ofInt k.bits n).toNat))
 | .not,.bool b=>some (.bool !b)
 | _,_=>none
def vZ (k:IntKind):kP→Option kP
 | .int _ n=>some (.int k (k.wrap n))
 | _=>none
def lV (c a b:kP):Option kP :=
 match c with
 | .bool g=>some (bif g then a else b)
 | _=>none
def apart (isAgg:Bool) (n:Nat) (cs:List kP) (off:Nat):Option kP :=
 bif isAgg then(if off+n≤cs.length then some (.agg ((cs.drop off).take n)) else none) else cs[off]?
def uH (isAgg:Bool) (n off:Nat):kP→Option kP
 | .agg cs=>apart isAgg n cs off
 | _=>none
def lT (i:Nat):kP→Option kP
 | .tuple vs=>vs[i]?
 | _=>none
def mX (x i:kP):Option kP :=
 match x,i with
 | .str s,.int _ n=>if 0≤n then(s[n.toNat]?).map fun b=>.int .u8 b.toNat else none
 | _,_=>none
def HW (isAgg:Bool) (len sz:Nat) (x i:kP):Option kP :=
 match x,i with
 | .agg cs,.int _ n=>if 0≤n∧n < len then apart isAgg sz cs (n.toNat * sz) else none
 | _,_=>none
def lH (sz:Nat) (x i:kP):Option kP :=
 match x,i with
 | .slice rows _,.int _ n =>
  if 0≤n then match rows[n.toNat]? with
   | some row=>if row.length=sz then some (.pptr row) else none
   | none=>none
  else none
 | .mslice id off len sz',.int _ n=>if 0≤n∧n < len∧sz'=sz then some (.ptr id (off+n.toNat * sz)) else none
 | .vslice id tot off len sz',.int _ n=>if 0≤n∧n < len∧sz'=sz then some (.vptr id tot (off+n.toNat * sz)) else none
 | _,_=>none
def BQ (len sz:Nat) (x i:kP):Option kP :=
 match x,i with
 | .ptr id off,.int _ n=>if 0≤n∧n < len then some (.ptr id (off+n.toNat * sz)) else none
 | .pptr cs,.int _ n=>if 0≤n∧n < len then some (.pptr (cs.drop (n.toNat * sz))) else none
 | _,_=>none
def kR (off:Nat):kP→Option kP
 | .ptr id o=>some (.ptr id (o+off))
 | .vptr id tot o=>some (.vptr id tot (o+off))
 | .pptr cs=>some (.pptr (cs.drop off))
 | _=>none
def uU (x:Option kP) (dflt:Nat):Option Nat :=
 match x with
 | none=>some dflt
 | some (.int _ n)=>if 0≤n then some n.toNat else none
 | _=>none
def oY (x:kP) (lo hi:Option kP):Option kP :=
 match x with
 | .str s=>match uU lo 0,uU hi s.length with
  | some l,some u=>if l≤u∧u≤s.length then some (.str ((s.drop l).take (u - l))) else none
  | _,_=>none
 | _=>none
def H7 (len sz:Nat) (x:kP) (lo hi:Option kP):Option kP :=
 match x,lo,hi with
 | .ptr id off,none,none=>if 0 < len then some (.mslice id off len sz) else none
 | _,_,_=>none
def uV (sz:Nat) (x:kP) (lo hi:Option kP):Option kP :=
 match x with
 | .slice rows _=>match uU lo 0,uU hi rows.length with
  | some l,some u=>if l≤u∧u≤rows.length∧(rows.all fun r=>r.length == sz) then some (.slice ((rows.drop l).take (u - l)) .no) else none
  | _,_=>none
 | .mslice id off len sz'=>match uU lo 0,uU hi len with
  | some l,some u=>if l≤u∧u≤len∧sz'=sz then some (.mslice id (off+l * sz) (u - l) sz) else none
  | _,_=>none
 | .vslice id tot off len sz'=>match uU lo 0,uU hi len with
  | some l,some u=>if l≤u∧u≤len∧sz'=sz then(if l=0∨l < u then some (.vslice id tot (off+l * sz) (u - l) sz) else some (.slice [] .no)) else none
  | _,_=>none
 | _=>none
def nW:kP→Option kP
 | .str s=>some (.int .i64 s.length)
 | _=>none
def nH:kP→Option kP
 | .slice rows _=>some (.int .i64 rows.length)
 | .mslice _ _ len _=>some (.int .i64 len)
 | .vslice _ _ _ len _=>some (.int .i64 len)
 | _=>none
def C3 (x y:kP):Option kP :=
 match x,y with
 | .int k a,.int _ b=>some (.int k (if b > a then b else a))
 | _,_=>none
def N0 (x y:kP):Option kP :=
 match x,y with
 | .int k a,.int _ b=>some (.int k (if b < a then b else a))
 | _,_=>none
def Rb:kP→List kP→Option kP
 | x,[]=>some x
 | x,y::r=>(N0 x y).bind fun z=>Rb z r
def I1:kP→List kP→Option kP
 | x,[]=>some x
 | x,y::r=>(C3 x y).bind fun z=>I1 z r
def oM (h:kT) (id:Nat):Option (List kP) :=
 match h[id]? with
 | some (.cells cs)=>some cs
 | _=>none
def qK (h:kT) (id tot:Nat):Option (Nat×List kP) :=
 match h[id]? with
 | some (.vec tot' sz cs)=>if tot'=tot then some (sz,cs) else none
 | _=>none
def kW (isAgg:Bool) (n:Nat) (h:kT):kP→Option kP
 | .pptr cs=>apart isAgg n cs 0
 | .ptr id off=>match oM h id with
  | some cs=>apart isAgg n cs off
  | none=>none
 | .vptr id tot off=>match qK h id tot with
  | some x=>apart isAgg n x.2 off
  | none=>none
 | _=>none
def putCells (cs:List kP) (off:Nat) (vs:List kP):List kP:=cs.take off++vs++cs.drop (off+vs.length)
def kP.isNil:kP→Bool
 | .slice [] .nil=>true
 | _=>false
def yU (h:kT) (o v:kP):kP:=bif v.isNil then(match o with
 | .slice [] (.own id)=>(match h[id]? with
  | some (.front 0 0)=>.slice [] (.own id)
  | _=>v)
 | _=>v) else v
def p9 (h:kT):List kP→List kP→List kP
 | o::os,v::vs=>yU h o v::p9 h os vs
 | _,vs=>vs
def k_ (n:Nat) (h:kT) (p v:kP):Option kT :=
 match p with
 | .ptr id off=>match oM h id with
  | some cs =>
   let vs:=v.cells
   if vs.length=n∧off+n≤cs.length∧vs.all kP.mH then some (h.set id (.cells (putCells cs off (p9 h (cs.drop off) vs)))) else none
  | none=>none
 | .vptr id tot off=>match qK h id tot with
  | some x =>
   let vs:=v.cells
   if vs.length=n∧off+n≤x.2.length∧vs.all kP.mH then some (h.set id (.vec tot x.1 (putCells x.2 off vs))) else none
  | none=>none
 | _=>none
def lL:Nat→List kP→List kP×kT
 | _,[]=>([],[])
 | id,.slice [] .nil::r=>let (a,b):=lL (id+1) r; (.slice [] (.own id)::a,.front 0 0::b)
 | id,v::r=>let (a,b):=lL id r; (v::a,b)
def lZ (n:Nat) (h:kT) (v:kP):Option (kP×kT) :=
 let vs:=v.cells
 if vs.length=n∧vs.all kP.mH then
  let (cs,fs):=lL (h.length+1) vs
  some (.ptr h.length 0,h++(.cells cs::fs))
 else none
def tV (bs:List UInt8):List (List kP):=bs.map fun b=>[kP.int .u8 (b.toNat:Int)]
def Bw (h:kT) (id:Nat):Option (Nat×List kP) :=
 match h[id]? with
 | some (.tcells t cs)=>some (t,cs)
 | _=>none
def mA (isAgg:Bool) (n:Nat) (h:kT):kP→Option kP
 | .ptr id off=>match Bw h id with
  | some x=>apart isAgg n x.2 off
  | none=>kW isAgg n h (.ptr id off)
 | v=>kW isAgg n h v
def p8 (n:Nat) (h:kT) (p v:kP):Option kT :=
 match p with
 | .ptr id off=>match Bw h id with
  | some x =>
   let vs:=v.cells
   if vs.length=n∧off+n≤x.2.length∧vs.all kP.mH then some (h.set id (.tcells x.1 (putCells x.2 off (p9 h (x.2.drop off) vs)))) else none
  | none=>k_ n h (.ptr id off) v
 | p=>k_ n h p v
def HY (tb g:Bool) (n:Nat) (h:kT) (x:kP):Option kP:=bif tb then mA g n h x else kW g n h x
def Ve (tb:Bool) (n:Nat) (h:kT) (p v:kP):Option kT:=bif tb then p8 n h p v else k_ n h p v
def I5 (t n:Nat) (h:kT) (v:kP):Option (kP×kT) :=
 let vs:=v.cells
 if vs.length=n∧vs.all kP.mH then
  let (cs,fs):=lL (h.length+1) vs
  some (.ptr h.length 0,h++(.tcells t cs::fs))
 else none
def U8 (tb:Bool) (t n:Nat) (h:kT) (v:kP):Option (kP×kT):=bif tb then I5 t n h v else lZ n h v
def qU (sz:Nat) (h:kT):kP→Option (List (List kP))
 | .slice rows _=>if rows.all fun r=>r.length == sz then some rows else none
 | .mslice id off len sz'=>match oM h id with
  | some cs=>if sz'=sz∧off+len * sz≤cs.length then(match oC ((cs.drop off).take (len * sz)) with | some row=>some (rowsOf len sz row) | none=>none) else none
  | none=>none
 | .vslice id tot off len sz'=>match qK h id tot with
  | some x=>if sz'=sz∧off+len * sz≤x.2.length then(match oC ((x.2.drop off).take (len * sz)) with | some row=>some (rowsOf len sz row) | none=>none) else none
  | none=>none
 | _=>none
def ZF (sz:Nat) (h:kT):kP→Option (List (List kP))
 | .vslice id tot off len sz'=>match qK h id tot with
  | some x=>if sz'=sz∧off+len * sz≤x.2.length then some (rowsOf len sz ((x.2.drop off).take (len * sz))) else none
  | none=>none
 | _=>none
def Ej (sz:Nat) (h:kT) (x:kP):Option (List (List kP)):=match qU sz h x with
 | some r=>some r
 | none=>ZF sz h x
def mN (sz bytes:Nat) (h:kT) (s x:kP):Option (kP×kT) :=
 match s,qU sz h x with
 | .slice rows (.own id),some new =>
  match h[id]? with
  | some (.front n sz') =>
   if rows.length=n∧(sz'=sz∨n=0∧sz'=0)∧(n+new.length) * bytes≤140737488355328∧n+new.length≤140737488355328
   then(if new.length=0 then some (.slice rows (.own id),h) else some (.slice (rows++new) (.own id),h.set id (.front (n+new.length) sz))) else none
  | _=>none
 | .slice [] .nil,some new =>
  if new.length=0 then some (.slice [] .nil,h) else
  if new.length * bytes≤140737488355328∧new.length≤140737488355328 then some (.slice new (.own h.length),h++[.front new.length sz]) else none
 | _,_=>none
def yR (t1 sz bytes:Nat) (h:kT) (s x:kP):Option (kP×kT) :=
 match s,qU sz h x with
 | .slice rows (.own id),some new =>
  match h[id]? with
  | some (.front n sz' t') =>
   if rows.length=n∧(sz'=sz∨n=0∧sz'=0)∧(n+new.length) * bytes≤140737488355328∧n+new.length≤140737488355328
   then(if new.length=0 then some (.slice rows (.own id),h) else some (.slice (rows++new) (.own id),h.set id (.front (n+new.length) sz (bif sz' == 0 || t' == t1 then t1 else 0)))) else none
  | _=>none
 | .slice [] .nil,some new =>
  if new.length=0 then some (.slice [] .nil,h) else
  if new.length * bytes≤140737488355328∧new.length≤140737488355328 then some (.slice new (.own h.length),h++[.front new.length sz t1]) else none
 | _,_=>none
def Aw (t1 sz by_ zl:Nat) (h:kT) (s x:kP):Option (kP×kT) :=
 match x with
 | .str bs=>bif sz == 1 && zl == 1 then yR t1 1 by_ h s (.slice (tV bs) .no) else none
 | _=>none
def yS (sz bytes:Nat) (h:kT) (s x:kP):Option (kP×kT) :=
 match s,Ej sz h x with
 | .slice [] (.own id),some new =>
  match h[id]? with
  | some (.front 0 0) =>
   if new.length * bytes≤140737488355328∧new.length≤140737488355328
   then(if new.length=0 then some (.slice [] (.own id),h) else some (.vslice id new.length 0 new.length sz,h.set id (.vec new.length sz new.flatten))) else none
  | _=>none
 | .slice [] .nil,some new =>
  if new.length=0 then some (.slice [] .nil,h) else
  if new.length * bytes≤140737488355328∧new.length≤140737488355328 then some (.vslice h.length new.length 0 new.length sz,h++[.vec new.length sz new.flatten]) else none
 | .vslice id tot 0 n sz',some new =>
  match qK h id tot with
  | some x =>
   if sz'=sz∧x.1=sz∧(n+new.length) * bytes≤140737488355328∧n+new.length≤140737488355328
   then(if new.length=0 then some (.vslice id tot 0 n sz,h)
    else if n+new.length≤tot then some (.vslice id tot 0 (n+new.length) sz,h.set id (.vec tot sz (putCells x.2 (n * sz) new.flatten)))
    else some (.vslice id (n+new.length) 0 (n+new.length) sz,h.set id (.vec (n+new.length) sz (x.2.take (n * sz)++new.flatten)))) else none
  | none=>none
 | _,_=>none
def r_ (h:kT) (v:kP):Option (kP×kT) :=
 match v with
 | .vslice id tot off len sz=>match qK h id tot with
  | some x=>match oC ((x.2.drop off).take (len * sz)) with
   | some row=>if off+len * sz≤x.2.length then some (.slice (rowsOf len sz row) .no,h.set id .gone) else none
   | none=>none
  | none=>none
 | v=>some (v,h)
def Eg:kT→List kP→Option (List kP×kT)
 | h,[]=>some ([],h)
 | h,c::r=>(r_ h c).bind fun y=>(Eg y.2 r).bind fun z=>some (y.1::z.1,z.2)
def KD (h:kT) (v:kP):Option (kP×kT) :=
 match v with
 | .agg cs=>(Eg h cs).bind fun z=>some (.agg z.1,z.2)
 | v=>some (v,h)
def Tl (sz:Nat) (zero:List kP) (h:kT) (x:kP):Option kT :=
 match x with
 | .slice [] _=>some h
 | .vslice id tot off len sz'=>if len=0 then some h else match qK h id tot with
  | some x=>if sz'=sz∧zero.length=sz∧zero.all kP.mH∧off+len * sz≤x.2.length then some (h.set id (.vec tot x.1 (putCells x.2 off (ah7 len zero).flatten))) else none
  | none=>none
 | _=>none
def l_ (zero:List kP) (places:List (Nat×Nat)) (parts:List (Nat×kP)):Option kP :=
 match parts with
 | []=>some (.agg zero)
 | (i,v)::rest=>match places[i]? with
  | some (off,n)=>if v.pN=false∧v.cells.length=n∧off+n≤zero.length then l_ (putCells zero off v.cells) places rest else none
  | none=>none
def tQ (len sz:Nat) (zero:List kP) (parts:List (Nat×kP)):Option (List (List kP)) :=
 match l_ (ah7 len zero).flatten ((List.range len).map fun i=>(i * sz,sz)) parts with
 | some (.agg cs)=>match oC cs with
  | some row=>if zero.length=sz∧cs.all kP.mH then some (rowsOf len sz row) else none
  | none=>none
 | _=>none
def lB (len sz:Nat) (zero:List kP) (parts:List (Nat×kP)) (h:kT):Option (kP×kT) :=
 match tQ len sz zero parts with
 | some rows=>some (.slice rows (.own h.length),h++[.front len sz])
 | none=>none
def Gv (len sz:Nat) (zero:List kP) (parts:List (Nat×kP)) (h:kT):Option (kP×kT) :=
 match l_ (ah7 len zero).flatten ((List.range len).map fun i=>(i * sz,sz)) parts with
 | some (.agg cs)=>if zero.length=sz∧cs.all kP.mH then some (.vslice h.length len 0 len sz,h++[.vec len sz cs]) else none
 | _=>none
def Dt (len sz:Nat) (zero:List kP) (parts:List (Nat×kP)) (h:kT):Option (kP×kT) :=
 match tQ len sz zero parts with
 | some rows=>some (.vslice h.length len 0 len sz,h++[.vec len sz rows.flatten])
 | none=>Gv len sz zero parts h
def qY (id len sz:Nat) (zero:List kP) (parts:List (Nat×kP)) (h:kT):Option (kP×kT) :=
 match h[id]?,tQ len sz zero parts with
 | some .free,some rows=>some (.slice rows (.own id),h.set id (.front len sz))
 | _,_=>none
def BS (sz bytes:Nat) (zero:List kP) (len:kP) (h:kT):Option (kP×kT) :=
 match len with
 | .int _ n=>if 0≤n∧n.toNat * bytes≤140737488355328∧n≤140737488355328
   then some (.mslice h.length 0 n.toNat sz,h++[.cells (ah7 n.toNat zero).flatten]) else none
 | _=>none
def zG (sz bytes:Nat) (zero:List kP) (len:kP) (h:kT):Option (kP×kT) :=
 match len with
 | .int _ n=>if 0≤n∧n.toNat * bytes≤140737488355328∧n≤140737488355328
   then some (.vslice h.length n.toNat 0 n.toNat sz,h++[.vec n.toNat sz (ah7 n.toNat zero).flatten]) else none
 | _=>none
def Tn (h:kT) (d s:kP):Option (kP×kT) :=
 match d,s with
 | .vslice id tot off len 1,.str bs=>match qK h id tot with
  | some x=>if off+len≤x.2.length∧x.1=1 then some (.int .i64 (min bs.length len:Nat),h.set id (.vec tot 1 (putCells x.2 off ((bs.take len).map fun b=>.int .u8 b.toNat)))) else none
  | none=>none
 | _,_=>none
def bytesOf:List (List kP)→Option (List UInt8)
 | []=>some []
 | [.int .u8 n]::r=>match bytesOf r with
  | some bs=>some (UInt8.ofNat n.toNat::bs)
  | none=>none
 | _=>none
def xD (x:kP):Option kP :=
 match x with
 | .slice rows _=>(bytesOf rows).map .str
 | _=>none
def E3 (h:kT) (x:kP):Option kP :=
 match x with
 | .vslice id tot off len sz=>match qU 1 h (.vslice id tot off len sz) with
  | some rows=>(bytesOf rows).map .str
  | none=>none
 | .mslice id off len sz=>match qU 1 h (.mslice id off len sz) with
  | some rows=>(bytesOf rows).map .str
  | none=>none
 | x=>xD x
def tA:List UInt8→UInt8→Int
 | [],_=>-1
 | b::l,c=>if b == c then 0 else if tA l c == -1 then -1 else tA l c+1
def aq5:af3→List kP→Option kP
 | .indexByte,[.str s,.int .u8 c]=>some (.int .i64 (tA s (UInt8.ofNat c.toNat)))
 | _,_=>none
def qR:TypeDesc→kP→Bool
 | .int k,.int k' _=>k == k'
 | .string,.str _=>true
 | .bool,.bool _=>true
 | _,_=>false
def HX:kP→Bool
 | .int _ _ | .str _ | .bool _=>true
 | _=>false
def D4 (k:kP):List (kP×kP)→Option (Option kP)
 | []=>some none
 | (k',v)::r=>match Q8 k k' with
  | some true=>some (some v)
  | some false=>D4 k r
  | none=>none
def Dv (k v:kP):List (kP×kP)→List (kP×kP)
 | []=>[(k,v)]
 | (k',v')::r=>match Q8 k k' with
  | some true=>(k',v)::r
  | _=>(k',v')::Dv k v r
def Du (k:kP):List (kP×kP)→List (kP×kP)
 | []=>[]
 | (k',v')::r=>match Q8 k k' with
  | some true=>r
  | _=>(k',v')::Du k r
def DG (h:kT):kP→Option (List (kP×kP))
 | .nilmap=>some []
 | .map id=>match h[id]? with
  | some (.map es)=>some es
  | _=>none
 | _=>none
def AN (zero:kP) (ok:Bool) (h:kT) (m k:kP):Option kP :=
 match DG h m with
 | some es=>match D4 k es with
  | some (some v)=>some (bif ok then .tuple [v,.bool true] else v)
  | some none=>some (bif ok then .tuple [zero,.bool false] else zero)
  | none=>none
 | none=>none
def JM (h:kT) (m k v:kP):Option kT :=
 match m with
 | .map id=>match h[id]? with
  | some (.map es)=>match D4 k es with
   | some _=>some (h.set id (.map (Dv k v es)))
   | none=>none
  | _=>none
 | _=>none
def O5 (h:kT) (m k:kP):Option kT :=
 match m with
 | .nilmap=>if HX k then some h else none
 | .map id=>match h[id]? with
  | some (.map es)=>if HX k∧(D4 k es).isSome then some (h.set id (.map (Du k es))) else none
  | _=>none
 | _=>none
def HV (h:kT) (m:kP):Option kT :=
 match m with
 | .nilmap=>some h
 | .map id=>match h[id]? with
  | some (.map _)=>some (h.set id (.map []))
  | _=>none
 | _=>none
def Aj:List (List kP)→Option (List UInt8)
 | []=>some []
 | [.int .u8 n]::r=>if 0≤n∧n < 256 then(match Aj r with
  | some bs=>some (UInt8.ofNat n.toNat::bs)
  | none=>none) else none
 | _=>none
def arA (h:kT) (id:Nat):Option (List kP) :=
 match h[id]? with
 | some (.cells cs)=>some cs
 | some (.tcells _ cs)=>some cs
 | _=>none
def ZL (e:Nat) (h:kT) (s:kP):Option (n_×kT) :=
 match s with
 | .slice [] .nil=>some (.ret (.str []),h)
 | .slice rows (.own fid)=>match h[fid]? with
  | some (.front n sz t)=>bif rows.length == n then(match n with
   | 0=>bif sz == 0 then some (.ret (.str []),h) else none
   | _+1=>bif sz == 1 && t == e+1 then(match Aj rows with
    | some bs=>some (.ret (.str bs),h.set fid .gone)
    | none=>none) else none) else none
  | _=>none
 | _=>none
def D8 (bld:Nat→Nat→Nat→Bool) (k:agH) (args:List kP) (h:kT):Option (n_×kT) :=
 match k with
 | .copyCheck=>match args with
  | [.ptr id off]=>match Bw h id with
   | some x=>bif bld x.1 off x.2.length then(match x.2[off]? with
    | some .nilptr=>some (.ret (.tuple []),h.set id (.tcells x.1 (putCells x.2 off [.ptr id off])))
    | some (.ptr id' off')=>if id'=id∧off'=off then some (.ret (.tuple []),h.set id (.tcells x.1 (putCells x.2 off [.ptr id off]))) else none
    | _=>none) else none
   | none=>none
  | _=>none
 | .bldString e=>match args with
  | [.ptr id off]=>match arA h id with
   | some cs=>match cs[off+1]? with
    | some s=>ZL e h s
    | none=>none
   | none=>none
  | _=>none
 | .fn g=>(g args).map fun v=>(.ret v,h)
end
section
open Go
def D5 (t:Nat):Nat:=1 <<< t
def ac3 (o:Oper):Nat:=o.op.operands.toList.foldl (fun m x=>match x with | .tmp t=>m ||| D5 t | _=>m) 0
def aqV (o:Oper):Nat:=match o.dst with | some d=>D5 d | none=>0
def aoZ (full:Nat):List Oper→Nat×Nat→Nat×Nat
 | [],a=>a
 | o::r,(u,d)=>aoZ full r (u ||| (ac3 o &&& (full ^^^ d)),d ||| aqV o)
def GY (id:Nat):Code→Bool
 | .exit j=>j == id
 | .seq a b | .cond _ a b=>GY id a || GY id b
 | .block _ c | .loop c | .scope c=>GY id c
 | _=>false
def leaves:List Nat→Code→Bool
 | ids,.exit j=>!(ids.contains j)
 | ids,.seq a b | ids,.cond _ a b=>leaves ids a || leaves ids b
 | ids,.block id c=>leaves (id::ids) c
 | ids,.loop c=>leaves ids c
 | ids,.scope c=>leaves ids c
 | _,.skip | _,.region _ _ _ | _,.label _=>false
 | _,_=>true
def ac2 (o:Oper):Bool:=match o.op with | .panic _=>true | _=>false
def zI:Code→Bool
 | .skip=>true
 | .region _ ops _=>!(ops.toList.any ac2)
 | .seq a b=>zI a && zI b
 | .cond _ a b=>zI a || zI b
 | .block id c=>zI c || GY id c
 | .scope c=>zI c
 | .label _=>true
 | _=>false
def CU (id:Nat):Code→Nat
 | .exit j=>bif j == id then 1 else 0
 | .seq a b=>CU id a+CU id b
 | .cond _ a b=>bif zI a && zI b then(bif leaves [] a || leaves [] b then 1 else 0) else CU id a+CU id b
 | .block j c=>bif decide (2≤CU j c+bif zI c then 1 else 0) then 1 else CU id c
 | .loop _=>1
 | .scope c=>CU id c
 | _=>0
def ud (full:Nat):Code→Nat×Nat
 | .skip=>(0,0)
 | .region _ ops _=>aoZ full ops.toList (0,0)
 | .seq a b=>let (u,d):=ud full a; let (u',d'):=ud full b; (u ||| (u' &&& (full ^^^ d)),d ||| d')
 | .cond c a b=>let (u,d):=ud full a; let (u',d'):=ud full b
  ((match c with | .tmp t=>D5 t | _=>0) ||| u ||| u',(bif zI a then d else full) &&& (bif zI b then d' else full))
 | .block id c=>let (u,d):=ud full c; (u,bif GY id c then 0 else d)
 | .loop c=>((ud full c).1,full)
 | .scope c=>ud full c
 | .label _=>(0,0)
 | _=>(0,full)
def ue (full:Nat) (c:Code):Nat:=(ud full c).1
def yV (L:Nat):Nat→List kP→List kP
 | _,[]=>[]
 | i,v::r=>bif L.testBit i then v::yV L (i+1) r else yV L (i+1) r
def pack (L:Nat) (ρ:List kP):List kP:=yV L 0 ρ
def unpackFrom (L:Nat) (x:List kP):Nat→Nat→Nat→List kP
 | 0,_,_=>[]
 | n+1,i,j=>bif L.testBit i then x.getD j .junk::unpackFrom L x n (i+1) (j+1) else .junk::unpackFrom L x n (i+1) j
def unpack (n L:Nat) (x:List kP):List kP:=unpackFrom L x n 0 0
def Ex.mG (e:Ex) (kn:Option R) (ke:Ex→Option R):Option R :=
 match e with
 | .normal=>kn
 | e=>ke e
def Ex.uJ (e:Ex) (kn:Option R):Option R :=
 match e with
 | .normal=>kn
 | _=>none
def Ex.inBlock (id:Nat) (e:Ex) (kn:Option R) (ke:Ex→Option R):Option R :=
 match e with
 | .normal=>kn
 | .exit j=>bif j == id then kn else ke (.exit j)
 | e=>ke e
def kU (x:Option (n_×kT)) (kv kp:kP→kT→Option R):Option R :=
 x.bind fun r=>match r.1 with
  | .ret v=>kv v r.2
  | .pan v=>kp v r.2
def k9 (x:Option (kP×kT)) (k:kP→kT→Option R):Option R:=x.bind fun r=>k r.1 r.2
def lC (v:kP) (t e:Option R):Option R :=
 match v with
 | .bool b=>bif b then t else e
 | _=>none
def tZ (P:Program) (t:TypeId):Option Bool :=
 match P.underlying t with
 | some (.struct _) | some (.array _ _)=>some true
 | some _=>some false
 | none=>none
def o0 (P:Program) (t:TypeId):Option Nat:=(P.info? t).map (·.size)
def y5 (P:Program) (t:TypeId):Option Nat:=(P.info? t).map (·.bytes)
def sY (P:Program) (t:TypeId):Option kP:=(P.info? t).bind fun i=>i.zero.map ofConst
def C7 (P:Program) (Ph:TypeId→Option (List Kd)):List Field→Nat→Option (List Kd)
 | [],_=>some []
 | f::r,off=>bif f.name == "_" || f.offset != off then none else match Ph f.type with
  | some ks=>bif o0 P f.type == some ks.length && ks.length != 0 then match C7 P Ph r (off+ks.length) with
    | some l=>some (ks++l)
    | none=>none
   else none
  | none=>none
def z6 (P:Program):Nat→TypeId→Option (List Kd)
 | 0,_=>none
 | d+1,t=>match P.underlying t with
  | some .bool=>some [.b]
  | some (.int _)=>some [.i]
  | some .string=>some [.s]
  | some (.struct fs)=>bif P.stoodInHeld t then none else C7 P (z6 P d) fs.toList 0
  | _=>none
def GJ (P:Program) (t:TypeId):Option (List Kd) :=
 match z6 P 12 t with
 | some ks=>bif P.eqGuardType P.depth t then none else some ks
 | none=>none
def Di:Operand→Bool
 | .const (.slice none 0 0)=>true
 | _=>false
def rS (o:Oper):Bool :=
 match o.op with
 | .alloc _ | .box .. | .buildSlice .. | .makeSlice .. | .makeMap .. | .store .. | .mapUpdate .. | .insert .. | .panic _=>true
 | .assign x=>Di x
 | .call c=>match c.callee with
  | .builtin .len | .builtin .cap | .builtin .min | .builtin .max=>false
  | _=>true
 | _=>false
def yD (o:Oper):Option Operand :=
 match o.op with
 | .load _ a=>some a
 | .lookup _ m _ _=>some m
 | _=>none
def KV:List Oper→List Nat→List Nat
 | [],acc=>acc
 | o::r,acc=>KV r (acc++[o.after.toList.foldl (fun m e=>bif Region.binds .any e then m ||| D5 e.on ||| acc.getD e.on 0 else m) 0])
def Nh (ops:List Oper):List Nat:=KV ops []
def alX (a b:Nat):Bool:=(a &&& b) == a
def Qf (ok:Nat→Bool) (cl:List Nat) (done:Nat):List Nat→Option Nat
 | []=>none
 | i::r=>bif !(done.testBit i) && alX (cl.getD i 0) done && ok i then some i else Qf ok cl done r
structure Item where
 i:Nat
 o:Oper
 locks:List Nat
 rsv:Option Nat:=none
 hid:Bool:=false
def vH (o:Oper):Bool:=o.guard.isNone && match o.op with | .alloc _ | .box .. | .buildSlice ..=>true | _=>false
def Aa (o:Oper):Bool:=o.guard.isNone && match o.op with | .call c=>(match c.callee with | .value _=>true | _=>false) | _=>false
def ao0 (cl:List Nat) (i j:Nat):Bool:=(i != j) && !((cl.getD i 0).testBit j) && !((cl.getD j 0).testBit i)
def ak0 (f:Oper→Bool) (ops:List Oper) (i:Nat):Bool:=match ops[i]? with | some o=>f o | none=>false
def K9 (ops:List Oper) (cl:List Nat):List Nat :=
 (List.range ops.length).filter fun i=>ak0 vH ops i && (List.range ops.length).any fun j=>ak0 rS ops j && ao0 cl i j
def J5:List Nat→Nat→Nat→Option Nat
 | [],_,_=>none
 | a::r,i,k=>bif a == i then some k else J5 r i (k+1)
def Da (ops:List Oper) (cl fl:List Nat):List Nat→List Nat→List Item
 | [],_=>[]
 | i::r,before=>match ops[i]? with
  | some o =>
   {i,o,locks:=bif rS o then before.filter (fun p=>!((cl.getD i 0).testBit p) && match ops[p]? with | some q=>(yD q).isSome | none=>false) else [],
    rsv:=J5 fl i 0,hid:=Aa o && fl.any (ao0 cl i) } ::
    Da ops cl fl r (before++[i])
  | none=>[]
def AB (o:Oper):List Tmp:=o.op.operands.toList.filterMap fun x=>match x with | .tmp t=>some t | _=>none
def aq8 (ops:List Oper) (o:Oper):Option Tmp:=match o.guard with
 | some (j,_)=>(ops[j]?).bind (·.dst)
 | none=>none
def CR (ops:List Oper) (o:Oper):List Tmp:=AB o++(aq8 ops o).toList
def ac0 (d:Option Tmp) (ts:List Tmp):Bool:=match d with
 | some d=>!(ts.contains d)
 | none=>true
def O8 (ops:List Oper) (x y:Oper):Bool :=
 ac0 x.dst (CR ops y) && ac0 y.dst (CR ops x) && ac0 x.dst y.dst.toList
def indep (ops:List Oper) (p it:Item):Bool :=
 O8 ops p.o it.o && match p.rsv,it.rsv with
 | some a,some b=>a != b
 | some _,none=>bif it.hid then true else !(rS it.o) && (yD it.o).isNone
 | none,some _=>bif p.hid then p.locks.isEmpty else !(rS p.o) && p.locks.isEmpty
 | none,none=>bif p.hid then p.locks.isEmpty && (!it.hid && (!(rS it.o) && (yD it.o).isNone))
   else !(rS p.o) && p.locks.isEmpty && (!((yD p.o).isSome) || !(rS it.o) || it.locks.contains p.i)
def LU (ops:List Oper) (cl:List Nat) (p it:Item):Bool :=
 (p.i != it.i) && !((cl.getD p.i 0).testBit it.i) && ((cl.getD it.i 0).testBit p.i || indep ops p it)
def DQ (ops:List Oper) (cl:List Nat):List Item→Bool
 | []=>true
 | p::r=>r.all (LU ops cl p) && DQ ops cl r
def Pf (ops:List Oper):Bool :=
 (ops.zipIdx).all fun(o,i)=>o.after.toList.all fun e=>!(Region.binds .any e) || decide (e.on < i)
def J1 (ops:List Oper) (cl fl:List Nat) (n:Nat):Nat→Nat→List Nat
 | 0,_=>[]
 | fuel+1,done =>
  let light (i:Nat):Bool:=match ops[i]? with | some o=>!(rS o) | none=>false
  match Qf light cl done (List.range n) with
  | some i=>i::J1 ops cl fl n fuel (done ||| D5 i)
  | none=>match Qf (fun i=>fl.contains i) cl done (List.range n) with
   | some i=>i::J1 ops cl fl n fuel (done ||| D5 i)
   | none=>match Qf (fun _=>true) cl done (List.range n) with
    | some i=>i::J1 ops cl fl n fuel (done ||| D5 i)
    | none=>[]
def V4 (ops:List Oper):List Nat:=J1 ops (Nh ops) (K9 ops (Nh ops)) ops.length ops.length 0
def DA (ops:List Oper):Option (List Item) :=
 let items:=Da ops (Nh ops) (K9 ops (Nh ops)) (V4 ops) []
 bif DQ ops (Nh ops) items && Pf ops && (items.length == ops.length) && (List.range ops.length).all (fun i=>items.any fun it=>it.i == i) then some items else none
def sF (ops:List Oper):List Item:=ops.zipIdx.map fun(o,i)=>{ i,o,locks:=[] }
def pS:kP→Option Nat
 | .ptr id _=>some id
 | .vptr id _ _=>some id
 | .map id=>some id
 | _=>none
def lI (locks:List Nat) (seen:List kP):List Nat:=locks.filterMap fun j=>pS (seen.getD j .junk)
def qD (h:kT) (id:Nat):kT :=
 match h[id]? with
 | some (.cells _) | some (.map _) | some (.vec _ _ _) | some (.tcells _ _)=>h.set id .gone
 | _=>h
def nI (h:kT) (r:kT) (id:Nat):kT :=
 match h[id]? with
 | some (.cells cs)=>r.set id (.cells cs)
 | some (.vec tot sz cs)=>r.set id (.vec tot sz cs)
 | some (.map es)=>r.set id (.map es)
 | some (.tcells t cs)=>r.set id (.tcells t cs)
 | _=>r
def nY (ids:List Nat) (h:kT):kT:=ids.foldl qD h
def lX (ids:List Nat) (h h':kT):kT:=ids.foldl (nI h) h'
def A4 (t:Nat) (z:kP):kP→Option kP
 | .iface t' w=>some (bif t' == t then .tuple [w,.bool true] else .tuple [z,.bool false])
 | .niliface=>some (.tuple [z,.bool false])
 | _=>none
def Cd.amB (A:Cd) (f t:Nat):Bool:=A.vec f || A.vecT f t
def Cd.Wi (A:Cd) (f t:Nat):Bool:=A.vlit f || A.vlitT f t
structure Cx where
 P:Program
 A:Cd
 K:lE
 lp:(List kP×kT→Option R)→List kP×kT→Option R
 n:Nat
 full:Nat
 pan:Bool:=false
 vec:Nat→Bool:=fun _=>false
 frz:Bool:=false
 vlit:Nat→Bool:=fun _=>false
 vmk:Bool:=false
 jt:Bool:=false
 lkp:Bool:=false
 rb:Bool:=false
 frl:Bool:=false
 tb:Bool:=false
def Bn:kP→Option (Nat×List kP×List kP)
 | .func f first cap=>some (f,first,cap)
 | _=>none
def Zw (P:Program) (t:TypeId) (name:String):Option Nat :=
 match P.info? t with
 | some i=>match i.methods.find? (·.name == name) with
  | some m=>bif m.path.toList.isEmpty then(match m.func with
   | some (f,false)=>match P.underlying t with
    | some (.struct _)=>some f
    | _=>none
   | _=>none) else none
  | none=>none
 | none=>none
def O1 (P:Program) (name:String):kP→Option (Nat×kP)
 | .iface t w=>(Zw P t name).map fun f=>(f,w)
 | _=>none
def lG:kP→Option kP
 | .ptr id off=>some (.ptr id off)
 | .vptr id tot off=>some (.vptr id tot off)
 | .pptr cs=>some (.pptr cs)
 | .func f a b=>some (.func f a b)
 | _=>none
def xM (id n:Nat) (h:kT) (v:kP):Option (kP×kT) :=
 let vs:=v.cells
 match h[id]? with
 | some .free=>if vs.length=n∧vs.all kP.mH then some (.ptr id 0,h.set id (.cells vs)) else none
 | _=>none
def AP (A:Cd) (f:Nat) (vs:List kP):List kP:=bif A.grow f then vs else vs.map kP.kV
def H6 (x:kP) (h:kT) (kp:kP→kT→Option R):Option R :=
 match x with
 | .iface t w=>kp (.iface t w) h
 | _=>none
def Ja (P:Program) (t:TypeId):Option TypeId :=
 match P.underlying t with
 | some (.slice e)=>some e
 | _=>none
def aaB (k:af3) (args:List kP) (h:kT):Option (n_×kT):=(aq5 k args).map fun v=>(.ret v,h)
def Cn (A:Cd) (K:lE) (f:Nat) (args:List kP) (h:kT):Option (n_×kT) :=
 match A.ext f with
 | some k=>aaB k args h
 | none=>K f args h
def Uu:Operand→Operand→Bool
 | .tmp a,.tmp b=>a == b
 | .const (.int _ a),.const (.int _ b)=>a == b
 | _,_=>false
def tR (cx:Cx) (b:Builtin) (argTypes:List TypeId) (args:List kP) (h:kT) (kv:kP→kT→Option R):Option R :=
 match b,argTypes,args with
 | .len,[t],[x]=>match cx.P.underlying t with
  | some (.array n _)=>kv (.int .i64 n) h
  | some .string=>(nW x).bind fun w=>kv w h
  | some (.slice _)=>(nH x).bind fun w=>kv w h
  | _=>none
 | .min,_,[x,y]=>(N0 x y).bind fun w=>kv w h
 | .max,_,[x,y]=>(C3 x y).bind fun w=>kv w h
 | .min,_,x::y::z::r=>(Rb x (y::z::r)).bind fun w=>kv w h
 | .max,_,x::y::z::r=>(I1 x (y::z::r)).bind fun w=>kv w h
 | .append,[t,t'],[s,x]=>match Ja cx.P t with
  | some e=>bif t != t' then(match cx.P.underlying t',o0 cx.P e,y5 cx.P e,sY cx.P e with
   | some .string,some sz,some by_,some z=>bif z.pN then none else k9 (Aw (e+1) sz by_ z.cells.length h s x) kv
   | _,_,_,_=>none) else match o0 cx.P e,y5 cx.P e,sY cx.P e with
   | some sz,some by_,some z=>bif sz == 0 || z.pN || z.cells.length != sz then none else k9 (bif cx.vec t then yS sz by_ h s x else bif cx.tb then yR (e+1) sz by_ h s x else mN sz by_ h s x) kv
   | _,_,_=>none
  | none=>none
 | .copy,[t,t'],[d,x]=>match Ja cx.P t,cx.P.underlying t' with
  | some e,some .string=>match o0 cx.P e,sY cx.P e with
   | some 1,some (.int .u8 _)=>k9 (Tn h d x) kv
   | _,_=>none
  | _,_=>none
 | .delete,[t,_],[m,k]=>match cx.P.underlying t with
  | some (.map kt _)=>match cx.P.underlying kt with
   | some d=>bif qR d k then(O5 h m k).bind fun h'=>kv (.tuple []) h' else none
   | none=>none
  | _=>none
 | .clear,[t],[x]=>match cx.P.underlying t with
  | some (.slice e)=>match o0 cx.P e,sY cx.P e with
   | some sz,some z=>bif z.pN then none else(Tl sz z.cells h x).bind fun h'=>kv (.tuple []) h'
   | _,_=>none
  | some (.map _ _)=>(HV h x).bind fun h'=>kv (.tuple []) h'
  | _=>none
 | _,_,_=>none
def oL (cx:Cx) (o:Oper) (rsv:Option Nat) (v:Operand→kP) (h:kT) (kv:kP→kT→Option R) (kp:kP→kT→Option R):Option R :=
 match o.op with
 | .move x=>kv (v x) h
 | .assign x=>bif Di x then kv (.slice [] (.own h.length)) (h++[.front 0 0]) else kv (v x) h
 | .pick c a b=>(lV (v c) (v a) (v b)).bind fun w=>kv w h
 | .alloc t=>match o0 cx.P t,sY cx.P t with
  | some n,some z=>match rsv with
   | none=>k9 (U8 (cx.A.tbt t) t n h z) kv
   | some id=>k9 (xM id n h z) kv
  | _,_=>none
 | .box t x=>match o0 cx.P t with
  | some n=>match rsv with
   | none=>k9 (U8 (cx.A.tbt t) t n h (v x)) kv
   | some id=>k9 (xM id n h (v x)) kv
  | none=>none
 | .build t parts=>match sY cx.P t,cx.P.underlying t with
  | some z,some (.struct fs) =>
   match fs.toList.mapM (fun f=>(o0 cx.P f.type).map fun n=>(f.offset,n)) with
   | some places=>bif z.pN then none else(l_ z.cells places (parts.toList.map fun p=>(p.1,v p.2))).bind fun w=>kv w h
   | none=>none
  | some z,some (.array len e)=>match o0 cx.P e with
   | some n=>bif z.pN then none else(l_ z.cells ((List.range len).map fun i=>(i * n,n)) (parts.toList.map fun p=>(p.1,v p.2))).bind fun w=>kv w h
   | none=>none
  | _,_=>none
 | .buildSlice t len parts=>match Ja cx.P t with
  | some e=>match o0 cx.P e,sY cx.P e with
   | some n,some z=>bif n == 0 || z.pN || decide (len * n > 16777216) then none else match rsv with
    | none=>k9 (bif cx.vlit t then Dt len n z.cells (parts.toList.map fun p=>(p.1,v p.2)) h else lB len n z.cells (parts.toList.map fun p=>(p.1,v p.2)) h) kv
    | some id=>k9 (qY id len n z.cells (parts.toList.map fun p=>(p.1,v p.2)) h) kv
   | _,_=>none
  | none=>none
 | .load t a=>match tZ cx.P t,o0 cx.P t with
  | some g,some n=>(HY cx.tb g n h (v a)).bind fun w=>bif cx.rb && cx.frl then k9 (KD h w) kv else kv w h
  | _,_=>none
 | .store t a x=>match o0 cx.P t with
  | some n=>bif cx.frz then(r_ h (v x)).bind fun y=>(k_ n y.2 (v a) y.1).bind fun h'=>kv (.tuple []) h' else(Ve cx.tb n h (v a) (v x)).bind fun h'=>kv (.tuple []) h'
  | none=>none
 | .nilCheck x=>(lG (v x)).bind fun w=>kv w h
 | .binOp op t x y _=>match op,cx.P.underlying t with
  | .eql,some (.struct _)=>match GJ cx.P t with
   | some ks=>(tX ks (v x) (v y)).bind fun b=>kv (.bool b) h
   | none=>none
  | .neq,some (.struct _)=>match GJ cx.P t with
   | some ks=>(tX ks (v x) (v y)).bind fun b=>kv (.bool (!b)) h
   | none=>none
  | _,some .bool=>(Fx op (v x) (v y)).bind fun w=>kv w h
  | _,some (.int _) | _,some .string=>(kZ op (v x) (v y)).bind fun w=>kv w h
  | _,_=>none
 | .unOp op _ x=>(x8 op (v x)).bind fun w=>kv w h
 | .convert s d x=>match cx.P.underlying s,cx.P.underlying d with
  | some (.int _),some (.int k)=>(vZ k (v x)).bind fun w=>kv w h
  | some (.slice e),some .string=>match cx.P.underlying e with
   | some (.int .u8)=>(bif cx.rb then E3 h (v x) else xD (v x)).bind fun w=>kv w h
   | _=>none
  | _,_=>none
 | .makeMap _ none=>kv (.map h.length) (h++[.map []])
 | .makeSlice t l c=>match Ja cx.P t with
  | some e=>match o0 cx.P e,y5 cx.P e,sY cx.P e with
   | some n,some by_,some z=>bif n == 0 || z.pN || z.cells.length != n || !(z.cells.all kP.mH) || !(Uu l c) then none else k9 (bif cx.vmk then zG n by_ z.cells (v l) h else BS n by_ z.cells (v l) h) kv
   | _,_,_=>none
  | none=>none
 | .lookup t m k ok=>match cx.P.underlying t with
  | some (.map kt e)=>match cx.P.underlying kt,sY cx.P e with
   | some d,some z=>bif qR d (v k) then(AN z ok h (v m) (v k)).bind fun w=>kv w h else none
   | _,_=>none
  | _=>none
 | .mapUpdate t m k x=>match cx.P.underlying t with
  | some (.map kt _)=>match cx.P.underlying kt with
   | some d=>bif qR d (v k) then(JM h (v m) (v k) (v x)).bind fun h'=>kv (.tuple []) h' else none
   | none=>none
  | _=>none
 | .makeInterface t x=>match cx.P.underlying t with
  | some (.interface _)=>none
  | some _=>kv (.iface t (v x)) h
  | none=>none
 | .makeFunc (.func f) first cap=>kv (.func f (first.toList.map v) (cap.toList.map v)) h
 | .slice t x lo hi none=>match cx.P.underlying t with
  | some .string=>(oY (v x) (lo.map v) (hi.map v)).bind fun w=>kv w h
  | some (.slice e)=>match o0 cx.P e with
   | some n=>(uV n (v x) (lo.map v) (hi.map v)).bind fun w=>kv w h
   | none=>none
  | some (.array len e)=>match o0 cx.P e with
   | some n=>(H7 len n (v x) (lo.map v) (hi.map v)).bind fun w=>kv w h
   | none=>none
  | _=>none
 | .fieldAddr s x f=>match cx.P.underlying s with
  | some (.struct fs)=>match fs[f]? with
   | some fd=>match o0 cx.P fd.type with
    | some (_+1)=>(kR fd.offset (v x)).bind fun w=>kv w h
    | _=>none
   | none=>none
  | _=>none
 | .field t x f=>match cx.P.underlying t with
  | some (.struct fs)=>match fs[f]? with
   | some fd=>match tZ cx.P fd.type,o0 cx.P fd.type with
    | some g,some n=>(uH g n fd.offset (v x)).bind fun w=>kv w h
    | _,_=>none
   | none=>none
  | _=>none
 | .indexAddr t x i=>match cx.P.underlying t with
  | some (.slice e)=>match o0 cx.P e with
   | some (n+1)=>(lH (n+1) (v x) (v i)).bind fun w=>kv w h
   | _=>none
  | some (.array len e)=>match o0 cx.P e with
   | some (n+1)=>(BQ len (n+1) (v x) (v i)).bind fun w=>kv w h
   | _=>none
  | _=>none
 | .index t x i=>match cx.P.underlying t with
  | some .string=>(mX (v x) (v i)).bind fun w=>kv w h
  | some (.array len e)=>match tZ cx.P e,o0 cx.P e with
   | some g,some n=>(HW g len n (v x) (v i)).bind fun w=>kv w h
   | _,_=>none
  | _=>none
 | .extract x i=>(lT i (v x)).bind fun w=>kv w h
 | .typeAssert x _ t true=>match cx.P.underlying t with
  | some (.interface _)=>none
  | some _=>match sY cx.P t with
   | some z=>(A4 t z (v x)).bind fun w=>kv w h
   | none=>none
  | none=>none
 | .panic x=>H6 (v x) h kp
 | .call c=>match c.callee with
  | .builtin b=>tR cx b c.argTypes.toList (c.args.toList.map v) h kv
  | .value f=>(Bn (v f)).bind fun g=>kU (Cn cx.A cx.K g.1 (AP cx.A g.1 (g.2.1++c.args.toList.map v++g.2.2)) h) kv kp
  | .invoke x name=>(O1 cx.P name (v x)).bind fun g=>kU (Cn cx.A cx.K g.1 (AP cx.A g.1 (g.2::c.args.toList.map v)) h) kv kp
 | _=>none
def evalOp (cx:Cx) (o:Oper) (rsv:Option Nat) (ρ:List kP) (h:kT) (kv:kP→kT→Option R) (kp:kP→kT→Option R):Option R:=oL cx o rsv (tB cx.A ρ) h kv kp
def sH (ρ:List kP) (dst:Option Tmp) (v:kP):List kP :=
 match dst with
 | some d=>ρ.set d v
 | none=>ρ
def pF (cx:Cx) (o:Oper) (ids:List Nat) (ρ:List kP) (h:kT) (kv:kP→kT→Option R) (kp:kP→kT→Option R):Option R :=
 evalOp cx o none ρ (nY ids h) (fun v h'=>kv v (lX ids h h')) (fun v h'=>kp v (lX ids h h'))
def kX (kv kp:kP→kT→Option R):R→Option R
 | (.normal,[v],h)=>kv v h
 | (.pan v,_,h)=>kp v h
 | _=>none
def kY (v:kP) (h:kT):Option R:=some (.normal,[v],h)
def AV (v:kP) (h:kT):Option R:=some (.pan v,[],h)
def kQ (want:Bool) (g:kP) (run skip:Option R):Option R :=
 match g with
 | .bool g=>bif want then(bif g then run else skip) else(bif g then skip else run)
 | .tuple []=>skip
 | _=>none
def wA (cx:Cx) (ops:List Oper) (o:Oper) (ids:List Nat) (ρ:List kP) (h:kT) (kv:kP→kT→Option R) (kp:kP→kT→Option R):Option R :=
 match o.guard with
 | none=>pF cx o ids ρ h kv kp
 | some (j,want)=>match (ops[j]?).bind (·.dst) with
  | some d=>(kQ want (ρ.getD d .junk) (pF cx o ids ρ h kY AV) (kY (.tuple []) h)).bind (kX kv kp)
  | none=>none
def seenAt (A:Cd) (o:Oper) (ρ:List kP):kP:=match yD o with
 | some a=>tB A ρ a
 | none=>.junk
def AJ (m:Nat) (v:kP):kP:=bif v.oZ m then v else .junk
def xU (m:Nat):lR→Bool
 | .cells cs=>cs.all (kP.oZ m)
 | .vec _ _ cs=>cs.all (kP.oZ m)
 | .tcells _ cs=>cs.all (kP.oZ m)
 | .map es=>es.all fun e=>e.2.oZ m
 | _=>true
def Py (m:Nat) (h:kT) (kv:kP→kT→Option R):R→Option R
 | (.normal,[v],h')=>bif h'.length == m then kv v (h'++h.drop m) else none
 | _=>none
def AQ (cx:Cx) (o:Oper) (m:Nat) (ids:List Nat) (ρ:List kP) (h:kT) (kv:kP→kT→Option R):Option R :=
 bif (h.take m).all (xU m) then(pF cx o ids (ρ.map (AJ m)) (h.take m) kY AV).bind (Py m h kv) else none
def pL (cx:Cx) (ops:List Oper) (m:Nat) (it:Item) (ids:List Nat) (ρ:List kP) (h:kT) (kv:kP→kT→Option R) (kp:kP→kT→Option R):Option R :=
 match it.rsv with
 | some j=>bif vH it.o then evalOp cx it.o (some (m+j)) ρ h kv (fun _ _=>none) else none
 | none=>bif it.hid then(bif Aa it.o then AQ cx it.o m ids ρ h kv else none) else wA cx ops it.o ids ρ h kv kp
def Pr {α:Type}:List kP→(List kP→α)→α
 | [],k=>k []
 | x::xs,k=>Pr xs fun ys=>k (x::ys)
theorem Ax {α:Type}:∀{l:List kP}{k:List kP→α},Pr l k=k l
 | [],_=>rfl
 | x::xs,k=>by rw [Pr,Ax]
def pT (cx:Cx) (ops:List Oper) (m:Nat):List Item→List kP→List kP→kT→(List kP→kT→Option R)→(kP→kT→Option R)→Option R
 | [],_,ρ,h,k,_=>k ρ h
 | it::rest,seen,ρ,h,k,kp =>
  pL cx ops m it (lI it.locks seen) ρ h (fun v h'=>Pr (sH ρ it.o.dst v) fun ρ'=>pT cx ops m rest (seen.set it.i (seenAt cx.A it.o ρ)) ρ' h' k kp) kp
def He:List Item→Nat
 | []=>0
 | it::r=>match it.rsv with | some _=>He r+1 | none=>He r
def N9:Nat→List lR
 | 0=>[]
 | n+1=>.free::N9 n
def Fj (n:Nat) (h:kT):kT :=
 match n with
 | 0=>h
 | n+1=>h++N9 (n+1)
def y6 (cx:Cx) (ops:List Oper) (draw:Bool) (ρ:List kP) (h:kT) (k:List kP→kT→Option R) (kp:kP→kT→Option R):Option R :=
 match draw with
 | false=>pT cx ops 0 (sF ops) [] ρ h k kp
 | true=>match DA ops with
  | some items=>pT { cx with rb:=false } ops h.length items (ah7 ops.length .junk) ρ (Fj (He items) h) k kp
  | none=>none
def Jp (L:Nat) (ρ:List kP) (h:kT):Option R:=some (.normal,pack L ρ,h)
def Jo (L:Nat) (e:Ex) (ρ:List kP) (h:kT):Option R:=some (e,pack L ρ,h)
def aAC (b:Bool) (ke:Ex→List kP→kT→Option R) (ρ:List kP):kP→kT→Option R :=
 match b with
 | true=>fun v h=>ke (.pan v) ρ h
 | false=>fun _ _=>none
def Ex.xR (m:Nat) (h:kT):Ex→Ex
 | .pan v=>.pan (v.xR m h)
 | e=>e
def lA (m:Nat) (e:Ex) (vs:List kP) (h:kT):Option R:=(mI m h).map fun h'=>(e.xR m h,vs.map (·.xR m h),h')
def FP (j:Bool) (m L:Nat) (e:Ex) (ρ:List kP) (h:kT):Option R :=
 match j with
 | false=>some (e,pack L ρ,h)
 | true=>lA m e (pack L ρ) h
def endRound (m L:Nat) (e:Ex) (ρ:List kP) (h:kT):Option R:=lA m e (pack L ρ) h
def El (k:Bool) (m L:Nat) (e:Ex) (ρ:List kP) (h:kT):Option R :=
 match k with
 | false=>endRound m L e ρ h
 | true=>some (e,pack L ρ,h)
def evalCode (cx:Cx):Code→Nat→List kP→kT→(List kP→kT→Option R)→(Ex→List kP→kT→Option R)→Option R
 | .skip,_,ρ,h,kn,_=>kn ρ h
 | .region _ ops draw,_,ρ,h,kn,ke=>y6 cx ops.toList draw ρ h kn (aAC cx.pan ke ρ)
 | .seq a b,L,ρ,h,kn,ke=>evalCode cx a (L ||| ue cx.full b) ρ h (fun ρ' h'=>evalCode cx b L ρ' h' kn ke) ke
 | .cond c a b,L,ρ,h,kn,ke =>
  bif zI a && zI b then
   (lC (tB cx.A ρ c) (evalCode cx a L ρ h (FP cx.jt h.length L .normal) (FP cx.jt h.length L)) (evalCode cx b L ρ h (FP cx.jt h.length L .normal) (FP cx.jt h.length L))).bind fun r =>
    bif cx.pan || (leaves [] a || leaves [] b) then r.1.mG (kn (unpack cx.n L r.2.1) r.2.2) fun e=>ke e (unpack cx.n L r.2.1) r.2.2
    else r.1.uJ (kn (unpack cx.n L r.2.1) r.2.2)
  else lC (tB cx.A ρ c) (evalCode cx a L ρ h kn ke) (evalCode cx b L ρ h kn ke)
 | .block id c,L,ρ,h,kn,ke =>
  bif decide (2≤CU id c+bif zI c then 1 else 0) then
   (evalCode cx c L ρ h (FP cx.jt h.length L .normal) (FP cx.jt h.length L)).bind fun r=>r.1.inBlock id (kn (unpack cx.n L r.2.1) r.2.2) fun e=>ke e (unpack cx.n L r.2.1) r.2.2
  else evalCode cx c L ρ h kn fun e ρ' h'=>e.inBlock id (kn ρ' h') fun e=>ke e ρ' h'
 | .loop c,L,ρ,h,_,ke =>
  (cx.lp (fun s=>evalCode cx c (L ||| ue cx.full c) (unpack cx.n (L ||| ue cx.full c) s.1) s.2 (El cx.lkp h.length (L ||| ue cx.full c) .normal) (El cx.lkp h.length (L ||| ue cx.full c)))
    (pack (L ||| ue cx.full c) ρ,h)).bind
   fun r=>r.1.mG none fun e=>ke e (unpack cx.n (L ||| ue cx.full c) r.2.1) r.2.2
 | .scope c,L,ρ,h,kn,ke=>evalCode cx c L ρ h kn ke
 | .label _,_,ρ,h,kn,_=>kn ρ h
 | .exit id,_,ρ,h,_,ke=>ke (.exit id) ρ h
 | .ret,_,ρ,h,_,ke=>ke .ret ρ h
 | _,_,_,_,_,_=>none
def CE (fn:Func):Nat:=fn.results.toList.foldl (fun m r=>match r with | .tmp t=>m ||| D5 t | .cell a _=>m ||| D5 a) 0
def Bo (P:Program) (ρ:List kP) (h:kT):ResultVar→Option kP
 | .tmp t=>some (ρ.getD t .junk)
 | .cell a t=>match tZ P t,o0 P t with
  | some g,some n=>kW g n h (ρ.getD a .junk)
  | _,_=>none
def A3 (P:Program) (ρ:List kP) (h:kT):List ResultVar→(List kP→Option (n_×kT))→Option (n_×kT)
 | [],k=>k []
 | .tmp t::r,k=>A3 P ρ h r fun vs=>k (ρ.getD t .junk::vs)
 | .cell a t::r,k=>match tZ P t,o0 P t with
  | some g,some n=>(kW g n h (ρ.getD a .junk)).bind fun v=>A3 P ρ h r fun vs=>k (v::vs)
  | _,_=>none
def oneOf:List kP→kP
 | [v]=>v
 | vs=>.tuple vs
def mJ (m:Nat) (v:kP) (h:kT):Option (n_×kT):=(mI m h).map fun h'=>(.ret (v.xR m h).kV,h')
def Pq (m:Nat) (v:kP) (h:kT):Option (n_×kT):=(mI m h).map fun h'=>(.ret (v.xR m h),h')
def azE (m:Nat) (v:kP) (h:kT):Option (n_×kT):=(r_ h v).bind fun y=>mJ m y.1 y.2
def kP.EM (v:kP):List Nat:=match sV v with | some id=>[id] | none=>[]
def kP.refs:kP→List Nat
 | .agg cs=>cs.flatMap kP.EM
 | v=>v.EM
def lR.refs:lR→List Nat
 | .cells cs=>cs.flatMap kP.EM
 | .vec _ _ cs=>cs.flatMap kP.EM
 | .tcells _ cs=>cs.flatMap kP.EM
 | .map es=>es.flatMap fun e=>e.2.EM
 | _=>[]
def kP.IC (f:Nat→Nat):kP→kP
 | .ptr id o=>.ptr (f id) o
 | .mslice id a b c=>.mslice (f id) a b c
 | .vslice id t a b c=>.vslice (f id) t a b c
 | .vptr id t o=>.vptr (f id) t o
 | .map id=>.map (f id)
 | .slice rows (.own id)=>.slice rows (.own (f id))
 | v=>v
def kP.Ny (f:Nat→Nat):kP→kP
 | .agg cs=>.agg (cs.map (kP.IC f))
 | .tuple vs=>.tuple (vs.map fun v=>match v with | .agg cs=>.agg (cs.map (kP.IC f)) | v=>v.IC f)
 | v=>v.IC f
def kP.X_ (p:Nat→Bool):kP→Bool
 | .agg _=>false
 | .tuple _=>false
 | .iface _ _=>false
 | .func _ first cap=>first.isEmpty && cap.isEmpty
 | v=>match sV v with | some r=>p r | none=>true
def kP.ok (p:Nat→Bool):kP→Bool
 | .agg cs=>cs.all (kP.X_ p)
 | .tuple vs=>vs.all fun v=>match v with | .agg cs=>cs.all (kP.X_ p) | v=>v.X_ p
 | v=>v.X_ p
def lR.Ny (f:Nat→Nat):lR→lR
 | .cells cs=>.cells (cs.map (kP.IC f))
 | .vec t s cs=>.vec t s (cs.map (kP.IC f))
 | .tcells t cs=>.tcells t (cs.map (kP.IC f))
 | .map es=>.map (es.map fun e=>(e.1,e.2.IC f))
 | b=>b
def lR.ok (p:Nat→Bool):lR→Bool
 | .cells cs=>cs.all (kP.X_ p)
 | .vec _ _ cs=>cs.all (kP.X_ p)
 | .tcells _ cs=>cs.all (kP.X_ p)
 | .map es=>es.all fun e=>e.2.X_ p
 | _=>true
def n_.Ny (f:Nat→Nat):n_→n_
 | .ret v=>.ret (v.Ny f)
 | .pan v=>.pan (v.Ny f)
def n_.ok (p:Nat→Bool):n_→Bool
 | .ret v=>v.ok p
 | .pan v=>v.ok p
def Xr:List Nat→Nat→Nat
 | [],_=>0
 | a::r,i=>bif a == i then 0 else Xr r i+1
def E6:List Nat→Bool
 | []=>true
 | a::r=>!(r.contains a) && E6 r
def addN (acc:List Nat):List Nat→List Nat
 | []=>acc
 | i::r=>addN (bif acc.contains i then acc else acc++[i]) r
def Tx (h:kT):Nat→List Nat→List Nat
 | 0,acc=>acc
 | n+1,acc=>Tx h n (addN acc (acc.flatMap fun i=>match h[i]? with | some b=>b.refs | none=>[]))
def reach (h:kT) (args:List kP):List Nat:=Tx h 3 (addN [] (args.flatMap kP.refs))
def Qj:List Nat→kT→kT→kT
 | i::is,b::bs,h=>Qj is bs (h.set i b)
 | _,_,h=>h
def aeJ (ids:List Nat) (args:List kP) (h:kT):Bool :=
 args.all (kP.ok fun i=>ids.contains i) && (E6 ids && ids.all fun i=>match h[i]? with | some b=>b.ok fun i=>ids.contains i | none=>false)
def alW (ids:List Nat) (h:kT):kT:=ids.map fun i=>(h.getD i .free).Ny (Xr ids)
def Qw (ids:List Nat) (h:kT) (r:n_×kT):Option (n_×kT) :=
 bif r.2.length == ids.length && (r.2.all (lR.ok fun j=>decide (j < ids.length)) && r.1.ok fun j=>decide (j < ids.length))
 then some (r.1.Ny fun j=>ids.getD j 0,Qj ids (r.2.map (lR.Ny fun j=>ids.getD j 0)) h) else none
def finish (A:Cd) (f:Nat) (m:Nat) (v:kP) (h:kT):Option (n_×kT) :=
 bif A.esc f then some (.ret v,h) else bif A.grow f then Pq m v h else bif A.frr f then azE m v h else mJ m v h
def Ex.nP (e:Ex) (x:Option (n_×kT)):Option (n_×kT) :=
 match e with
 | .normal=>x
 | .ret=>x
 | _=>none
def Ex.yM (e:Ex) (x:Option (n_×kT)) (xp:kP→Option (n_×kT)):Option (n_×kT) :=
 match e with
 | .normal=>x
 | .ret=>x
 | .pan v=>xp v
 | _=>none
def vA (m:Nat) (v:kP) (h:kT):Option (n_×kT):=(mI m h).map fun h'=>(.pan (v.xR m h).kV,h')
def N5 (P:Program) (A:Cd) (f:Nat) (fn:Func) (m:Nat) (e:Ex) (ρ:List kP) (h:kT):Option (n_×kT) :=
 bif A.pan f then e.yM (A3 P ρ h fn.results.toList fun vs=>finish A f m (oneOf vs) h) fun v=>vA m v h
 else e.nP (A3 P ρ h fn.results.toList fun vs=>finish A f m (oneOf vs) h)
def E8 (o:Oper):Bool:=o.guard.isNone && match o.op with | .call c=>(match c.callee with | .builtin .recover=>true | _=>false) | _=>false
def Vm (o:Oper):Option Operand :=
 match o.guard,o.op with
 | none,.defer c=>match c.callee with
  | .value f=>bif c.args.isEmpty && o.dst.isNone then some f else none
  | _=>none
 | _,_=>none
def Db (ops:List Oper):Option Operand:=(ops.getLast?).bind Vm
def ED (m:Nat):Code→Bool
 | .region _ ops _=>ops.toList.all fun o=>match o.dst with | some d=>!(m.testBit d) | none=>true
 | .seq a b | .cond _ a b=>ED m a && ED m b
 | .block _ c | .loop c=>ED m c
 | .skip | .exit _ | .ret=>true
 | _=>false
def Ex.Rt (e:Ex) (xn:Option R) (xp:kP→Option R):Option R :=
 match e with
 | .normal=>xn
 | .ret=>xn
 | .pan v=>xp v
 | _=>none
def Ex.Xf (e:Ex) (x:Option kT):Option kT :=
 match e with
 | .normal=>x
 | .ret=>x
 | _=>none
def yY (cx:Cx) (g:Nat) (caps:List kP) (pv:Option kP) (h:kT):Option kT :=
 match cx.P.funcs[g]? with
 | some fn=>match fn.body with
  | some (.seq (.region _ ops false) c)=>match ops.toList with
   | o::_=>bif E8 o && decide (caps.length≤fn.ntmps) && fn.results.isEmpty && !(fn.name == "runtime.NumGoroutine") then
     (pT { cx with n:=fn.ntmps,full:=2 ^ fn.ntmps - 1,pan:=false } ops.toList 0 (sF ops.toList).tail []
      (sH (caps++ah7 (fn.ntmps - caps.length) (.tuple [])) o.dst (pv.getD .niliface)) h
      (fun ρ' h'=>evalCode { cx with n:=fn.ntmps,full:=2 ^ fn.ntmps - 1,pan:=false } c 0 ρ' h' (Jp 0) (Jo 0)) (fun _ _=>none)).bind
      fun r=>r.1.Xf (mI h.length r.2.2)
    else none
   | []=>none
  | _=>none
 | none=>none
def BY (cx:Cx) (b:Code) (L:Nat) (fv:kP) (ρ:List kP) (h:kT):Option R :=
 bif ED L b then(Bn fv).bind fun g =>
  (evalCode { cx with pan:=true } b L ρ h (Jp L) (Jo L)).bind fun r =>
   r.1.Rt ((yY cx g.1 (g.2.1++g.2.2) none r.2.2).map fun h2=>(.ret,r.2.1,h2)) fun v=>(yY cx g.1 (g.2.1++g.2.2) (some v) r.2.2).map fun h2=>(.ret,pack L ρ,h2)
 else none
def Ex.V3 (e:Ex) (x:Option R):Option R :=
 match e with
 | .ret=>x
 | _=>none
def Oq (L:Nat) (e:Ex) (ρ:List kP) (h:kT):Option R:=e.V3 (some (.ret,pack L ρ,h))
def u_ (cx:Cx):Code→Nat→List kP→kT→Option R
 | .seq (.region id ops false) b,L,ρ,h=>match Db ops.toList with
  | some f=>pT cx ops.toList 0 (sF ops.toList).dropLast [] ρ h (fun ρ' h'=>BY cx b L (tB cx.A ρ' f) ρ' h') (fun _ _=>none)
  | none=>evalCode cx (.region id ops false) (L ||| ue cx.full b) ρ h (fun ρ' h'=>u_ cx b L ρ' h') (Oq L)
 | .seq a b,L,ρ,h=>evalCode cx a (L ||| ue cx.full b) ρ h (fun ρ' h'=>u_ cx b L ρ' h') (Oq L)
 | _,_,_,_=>none
def En (cx:Cx) (d:Bool) (c:Code) (L:Nat) (ρ:List kP) (h:kT):Option R :=
 match d with
 | true=>u_ { cx with pan:=false } c L ρ h
 | false=>evalCode cx c L ρ h (Jp L) (Jo L)
def Pl (P:Program) (A:Cd) (K:lE) (lp:(List kP×kT→Option R)→List kP×kT→Option R) (f:Nat) (fn:Func) (c:Code) (args:List kP) (h:kT):Option (n_×kT) :=
 (En { P,A,K,lp,n:=fn.ntmps,full:=2 ^ fn.ntmps - 1,pan:=A.pan f,vec:=A.amB f,frz:=A.frz f,vlit:=A.Wi f,vmk:=A.vmk f,jt:=A.jt f,lkp:=A.lkp f,rb:=A.rb f,frl:=A.frl f,tb:=A.tb f } (A.dfr f) c (CE fn)
   (args++ah7 (fn.ntmps - args.length) (.tuple [])) h).bind
  fun r=>N5 P A f fn h.length r.1 (unpack fn.ntmps (CE fn) r.2.1) r.2.2
def uN:Nat→(List kP×kT→Option R)→List kP×kT→Option R
 | 0,_,_=>none
 | n+1,F,s=>(F s).bind fun r=>r.1.mG (uN n F r.2) fun e=>some (e,r.2)
def EJ (out:Bool) (h:kT) (r:n_×kT):Option (n_×kT):=match r.2 with
 | []=>some (r.1,h)
 | _=>none
def mD (A:Cd) (K:lE):lE:=fun f args h =>
 bif A.pure f then(bif args.all (kP.oZ 0) then(K f args []).bind (EJ (A.out f) h) else none) else K f args h
abbrev YL:=(List kP×kT→Option R)→List kP×kT→Option R
def qJ (P:Program) (A:Cd) (lp:YL) (K:lE) (f:Nat) (args:List kP) (h:kT):Option (n_×kT) :=
 match A.prm f with
 | some k=>D8 A.bld k args h
 | none=>match P.funcs[f]? with
  | some fn=>match fn.body with
   | some c=>bif decide (args.length≤fn.ntmps) && !(fn.name == "runtime.NumGoroutine") then Pl P A (mD A K) lp f fn c args h else none
   | none=>none
  | none=>none
def Ta (P:Program) (A:Cd) (lp:YL):Nat→lE
 | 0,_,_,_=>none
 | n+1,f,args,h=>qJ P A lp (Ta P A lp n) f args h
end
section
open Go Go.RowKit
structure Gh where
 H:Nat→Nat→Option Value
 oP:Nat→Nat
 cur:Nat→Value
inductive rI (H:Nat→Nat→Option Value):kP→Value→Prop
 | junk (V:Value):rI H .junk V
 | bool (b:Bool):rI H (.bool b) (.bool b)
 | int (k:IntKind) (n:Int):rI H (.int k n) (.int k n)
 | str (s:List UInt8):rI H (.str s) (.string ⟨s.toArray⟩)
 | agg (cs:List kP) (C:Array Value) (hl:cs.length=C.size) (h:∀(i:Nat) (v:kP),cs[i]?=some v→rI H v (C.getD i undef)):rI H (.agg cs) (.agg C)
 | tuple (cs:List kP) (C:Array Value) (hl:cs.length=C.size) (h:∀(i:Nat) (v:kP),cs[i]?=some v→rI H v (C.getD i undef)):rI H (.tuple cs) (.tuple C)
 | slice0 (a:Option Addr) (cap:Nat):rI H (.slice [] .no) (.slice a 0 cap)
 | slice (rows:List (List kP)) (b off cap sz:Nat) (V:Nat→Value) (hr:∀r∈rows,r.length=sz) (hc:rows.length≤cap)
   (hH:∀(i j:Nat) (row:List kP) (v:kP),rows[i]?=some row→row[j]?=some v→H b (off+(i * sz+j))=some (V (i * sz+j)))
   (hk:∀(i j:Nat) (row:List kP) (v:kP),rows[i]?=some row→row[j]?=some v→v.mH=true)
   (hV:∀(i j:Nat) (row:List kP) (v:kP),rows[i]?=some row→row[j]?=some v→rI H v (V (i * sz+j))) :
   rI H (.slice rows .no) (.slice (some ⟨b,off,none⟩) rows.length cap)
 | pptr (cs:List kP) (b off:Nat) (V:Nat→Value)
   (hH:∀(j:Nat) v,cs[j]?=some v→H b (off+j)=some (V j))
   (hk:∀(j:Nat) (v:kP),cs[j]?=some v→v.mH=true)
   (hV:∀(j:Nat) v,cs[j]?=some v→rI H v (V j)):rI H (.pptr cs) (.pointer (some ⟨b,off,none⟩))
 | nilptr:rI H .nilptr (.pointer none)
 | nilmap:rI H .nilmap (.map none)
 | nilfunc:rI H .nilfunc .nilFunc
 | niliface:rI H .niliface .nilIface
 | func (f:Nat):rI H (.func f [] []) (.func (.func f) #[] #[])
 | iface (t:Nat) (v:kP) (V:Value) (h:rI H v V):rI H (.iface t v) (.iface t V)
theorem rI.mono {H H':Nat→Nat→Option Value}(hh:∀b k v,H b k=some v→H' b k=some v) {v:kP}{V:Value}(h:rI H v V):rI H' v V:=by
 induction h with
 | junk V=>exact .junk V
 | bool b=>exact .bool b
 | int k n=>exact .int k n
 | str s=>exact .str s
 | agg cs C hl _ ih=>exact .agg cs C hl ih
 | tuple cs C hl _ ih=>exact .tuple cs C hl ih
 | slice0 a cap=>exact .slice0 a cap
 | slice rows b off cap sz V hr hc hH hk _ ih=>exact .slice rows b off cap sz V hr hc (fun i j row v h1 h2=>hh _ _ _ (hH i j row v h1 h2)) hk ih
 | pptr cs b off V hH hk _ ih=>exact .pptr cs b off V (fun j v h1=>hh _ _ _ (hH j v h1)) hk ih
 | nilptr=>exact .nilptr
 | nilmap=>exact .nilmap
 | nilfunc=>exact .nilfunc
 | niliface=>exact .niliface
 | func f=>exact .func f
 | iface t v V _ ih=>exact .iface t v V ih
def live (h:kT) (id:Nat):Prop:=∃b,h[id]?=some b∧b≠.free
def Ae (h:kT) (id:Nat):Prop:=∃b,h[id]?=some b∧b≠.free∧∀n sz t,b≠.front n sz t
def Bb:Value→Nat
 | .slice _ n _=>n
 | _=>0
inductive lP (G:Gh) (h:kT):kP→Value→Prop
 | p (v:kP) (V:Value) (hp:rI G.H v V):lP G h v V
 | agg (cs:List kP) (C:Array Value) (hl:cs.length=C.size) (hh:∀(i:Nat) (v:kP),cs[i]?=some v→lP G h v (C.getD i undef)):lP G h (.agg cs) (.agg C)
 | tuple (cs:List kP) (C:Array Value) (hl:cs.length=C.size) (hh:∀(i:Nat) (v:kP),cs[i]?=some v→lP G h v (C.getD i undef)):lP G h (.tuple cs) (.tuple C)
 | nil:lP G h (.slice [] .nil) (.slice none 0 0)
 | own (rows:List (List kP)) (id n sz:Nat) (V:Value) (hp:rI G.H (.slice rows .no) V) {t:Nat}(hf:h[id]?=some (.front n sz t)) (hn:rows.length≤n) (hr:∀r∈rows,r.length=sz) (hc:rows.length=n→V=G.cur id):lP G h (.slice rows (.own id)) V
 | ownv {rows:List (List kP)}(id:Nat) (V:Value) (hp:rI G.H (.slice rows .no) V) (hb:Ae h id):lP G h (.slice rows (.own id)) V
 | vslice (id tot off len sz b cap:Nat) (hl:Ae h id) (ht:tot≤Bb (G.cur id)) (hc:len≤cap)
   (hv:tot=Bb (G.cur id)→∃l cap0,G.cur id=.slice (some ⟨b,0,none⟩) tot cap0∧off=l * sz∧l+len≤tot∧cap=cap0 - l):lP G h (.vslice id tot off len sz) (.slice (some ⟨b,off,none⟩) len cap)
 | vptr (id tot off b:Nat) (hl:Ae h id) (ht:tot≤Bb (G.cur id)) (hv:tot=Bb (G.cur id)→∃cap0,G.cur id=.slice (some ⟨b,0,none⟩) tot cap0):lP G h (.vptr id tot off) (.pointer (some ⟨b,off,none⟩))
 | ptr (id off:Nat) (hl:live h id):lP G h (.ptr id off) (.pointer (some ⟨G.oP id,off,none⟩))
 | mslice (id off len sz cap:Nat) (hl:live h id) (hc:len≤cap):lP G h (.mslice id off len sz) (.slice (some ⟨G.oP id,off,none⟩) len cap)
 | mslice0 (id off sz cap:Nat) (a:Option Addr):lP G h (.mslice id off 0 sz) (.slice a 0 cap)
 | map (id:Nat) (hl:live h id):lP G h (.map id) (.map (some (G.oP id)))
 | func (f:Nat) (first cap:List kP) (F C:Array Value) (hlf:first.length=F.size) (hlc:cap.length=C.size)
   (hf:∀(i:Nat) (v:kP),first[i]?=some v→lP G h v (F.getD i undef)) (hc:∀(i:Nat) (v:kP),cap[i]?=some v→lP G h v (C.getD i undef)):lP G h (.func f first cap) (.func (.func f) F C)
 | iface (t:Nat) (v:kP) (V:Value) (hh:lP G h v V):lP G h (.iface t v) (.iface t V)
def owner (G:Gh) (h:kT) (id:Nat):Option Nat :=
 match h[id]? with
 | some (.cells _) | some (.map _) | some (.tcells _ _)=>some (G.oP id)
 | some (.front _ _ _) | some (.vec _ _ _)=>(G.cur id).ownBlock
 | _=>none
def Eb (G:Gh) (h:kT) (w:World) (id:Nat):lR→Prop
 | .free=>True
 | .gone=>True
 | .cells cs=>∃C e,w.heap[G.oP id]?=some (.cells C e (0,0))∧C.size=cs.length∧(∀k,G.H (G.oP id) k=none) ∧
   ∀(i:Nat) (v:kP),cs[i]?=some v→v.mH=true∧lP G h v (C.getD i undef)
 | .tcells e cs=>∃C,w.heap[G.oP id]?=some (.cells C e (0,0))∧C.size=cs.length∧(∀k,G.H (G.oP id) k=none) ∧
   ∀(i:Nat) (v:kP),cs[i]?=some v→v.mH=true∧lP G h v (C.getD i undef)
 | .front n sz t=>(n=0∧G.cur id=.slice none 0 0)∨∃b cap C e,G.cur id=.slice (some ⟨b,0,none⟩) n cap∧w.heap[b]?=some (.cells C e (0,0)) ∧
   n≤cap∧cap≤maxLen∧C.size=cap * sz∧0 < sz∧(∀k,n * sz≤k→G.H b k=none)∧(t≠0→e+1=t)
 | .vec tot sz cs=>∃b cap C e,G.cur id=.slice (some ⟨b,0,none⟩) tot cap∧w.heap[b]?=some (.cells C e (0,0))∧tot≤cap∧cap≤maxLen∧C.size=cap * sz∧0 < sz∧cs.length=tot * sz∧(∀k,G.H b k=none) ∧
   ∀(i:Nat) (v:kP),cs[i]?=some v→v.mH=true∧lP G h v (C.getD i undef)
 | .map es=>∃E clock,w.heap[G.oP id]?=some (.map E clock)∧E.size=es.length∧(∀k,G.H (G.oP id) k=none) ∧
   (∀(i:Nat) (kv:kP×kP),es[i]?=some kv→∃m,E[i]?=some m∧HX kv.1=true∧rI G.H kv.1 m.key∧lP G h kv.2 m.val)∧MapKept.Stamped E clock
structure Inv (G:Gh) (h:kT) (w:World):Prop where
 ok:∀b k v,G.H b k=some v→w.cell? ⟨b,k,none⟩=some v
 oP:∀id bl,h[id]?=some bl→Eb G h w id bl
 inj:∀i j b,owner G h i=some b→owner G h j=some b→i=j
def Kind (G G':Gh) (id:Nat):lR→lR→Prop
 | .free,_=>True
 | .gone,.gone=>G'.oP id=G.oP id∧G'.cur id=G.cur id
 | .cells a,.cells b=>a.length=b.length∧G'.oP id=G.oP id∧G'.cur id=G.cur id
 | .map _,.map _=>G'.oP id=G.oP id∧G'.cur id=G.cur id
 | .tcells t a,.tcells t' b=>t'=t∧a.length=b.length∧G'.oP id=G.oP id∧G'.cur id=G.cur id
 | .front n sz _,.front n' sz' _=>n≤n'∧(n=n'→G'.cur id=G.cur id)∧G'.oP id=G.oP id∧(0 < n→sz'=sz)
 | .front n _ _,.vec _ _ _=>n=0∧G'.oP id=G.oP id
 | .front _ _ _,.gone=>G'.oP id=G.oP id
 | .vec _ _ _,.vec _ _ _=>G'.oP id=G.oP id∧Bb (G.cur id)≤Bb (G'.cur id)∧(Bb (G.cur id)=Bb (G'.cur id)→G'.cur id=G.cur id)
 | .vec _ _ _,.gone=>G'.oP id=G.oP id∧Bb (G.cur id)≤Bb (G'.cur id)∧(Bb (G.cur id)=Bb (G'.cur id)→G'.cur id=G.cur id)
 | _,_=>False
structure Ext (G:Gh) (h:kT) (w:World) (G':Gh) (h':kT) (w':World):Prop where
 os:w'.os=w.os
 tape:w'.tape=w.tape
 output:w'.output=w.output
 size:w.heap.size≤w'.heap.size
 frame:∀b,b < w.heap.size→(∀id,owner G h id≠some b)→w'.heap[b]?=w.heap[b]?∧∀k,G'.H b k=G.H b k
 hmono:∀b k v,G.H b k=some v→G'.H b k=some v
 own:∀id b,owner G' h' id=some b→b < w.heap.size→owner G h id=some b
 kinds:∀id bl,h[id]?=some bl→∃bl',h'[id]?=some bl'∧Kind G G' id bl bl'
theorem Kind.refl (G:Gh) (id:Nat) (b:lR):Kind G G id b b:=by cases b <;> simp [Kind]
theorem Kind.trans {G G' G'':Gh}{id:Nat}{a b c:lR}(h:Kind G G' id a b) (h':Kind G' G'' id b c):Kind G G'' id a c:=by
 cases a <;> cases b <;> cases c <;> simp only [Kind] at h h' ⊢ <;> first
  | exact h.elim
  | exact h'.elim
  | trivial
  | exact⟨h'.1.trans h.1,h'.2.trans h.2⟩
  | exact⟨h.1.trans h'.1,h'.2.1.trans h.2.1,h'.2.2.trans h.2.2⟩
  | exact⟨by omega,by omega,h'.2.2.1.trans h.2.2.1,fun e=>by rw [h'.2.2.2 (by omega),h.2.2.2 e]⟩
  | exact⟨by omega,fun e=>by rw [h'.2.1 (by omega),h.2.1 (by omega)],h'.2.2.1.trans h.2.2.1,fun e=>by rw [h'.2.2.2 (by omega),h.2.2.2 e]⟩
  | exact⟨h'.1.trans h.1,by omega,fun e=>by rw [h'.2.2 (by omega),h.2.2 (by omega)]⟩
  | exact⟨h'.1.trans h.1,by have:=h'.2; rw [h'.2]; exact h.2.1,fun e=>by rw [h'.2] at e ⊢; exact h.2.2 e⟩
  | exact⟨h.1,h'.1.trans h.2⟩
  | exact⟨by omega,h'.2.trans h.2.2.1⟩
  | exact h'.trans h.2.2.1
  | exact h'.1.trans h
  | exact h'.1.trans h.2
  | exact⟨h'.1.trans h.1,h.2.1.trans h'.2.1,h'.2.2.1.trans h.2.2.1,h'.2.2.2.trans h.2.2.2⟩
  | skip
theorem Ext.refl (G:Gh) (h:kT) (w:World):Ext G h w G h w :=
 ⟨rfl,rfl,rfl,ac9 _,fun _ _ _=>⟨rfl,fun _=>rfl⟩,fun _ _ _ h=>h,fun _ _ h _=>h,fun id bl hb=>⟨bl,hb,Kind.refl G id bl⟩⟩
theorem Ext.trans {G G' G'':Gh}{h h' h'':kT}{w w' w'':World}(a:Ext G h w G' h' w') (b:Ext G' h' w' G'' h'' w''):Ext G h w G'' h'' w'' where
 os:=b.os.trans a.os
 tape:=b.tape.trans a.tape
 output:=b.output.trans a.output
 size:=Nat.le_trans a.size b.size
 frame:=fun c hc hn=>by
  obtain⟨h1,h2⟩:=a.frame c hc hn
  obtain⟨h3,h4⟩:=b.frame c (Nat.lt_of_lt_of_le hc a.size) (fun id ho=>hn id (a.own id c ho hc))
  exact⟨h3.trans h1,fun k=>(h4 k).trans (h2 k)⟩
 hmono:=fun c k v hv=>b.hmono c k v (a.hmono c k v hv)
 own:=fun id c ho hc=>a.own id c (b.own id c ho (Nat.lt_of_lt_of_le hc a.size)) hc
 kinds:=fun id bl hb=>by
  obtain⟨b1,h1,k1⟩:=a.kinds id bl hb
  obtain⟨b2,h2,k2⟩:=b.kinds id b1 h1
  exact⟨b2,h2,k1.trans k2⟩
structure Ed (G:Gh) (h:kT) (G':Gh) (h':kT):Prop where
 hmono:∀b k v,G.H b k=some v→G'.H b k=some v
 kinds:∀id bl,h[id]?=some bl→∃bl',h'[id]?=some bl'∧Kind G G' id bl bl'
theorem Ext.toMono {G G':Gh}{h h':kT}{w w':World}(a:Ext G h w G' h' w'):Ed G h G' h':=⟨a.hmono,a.kinds⟩
theorem Kind.oP {G G':Gh}{id:Nat}{a b:lR}(h:Kind G G' id a b) (ha:a≠.free):b≠.free∧G'.oP id=G.oP id:=by
 cases a <;> cases b <;> simp_all [Kind]
theorem Kind.nf {G G':Gh}{id:Nat}{a b:lR}(h:Kind G G' id a b) (ha:a≠.free) (hn:∀n sz t,a≠.front n sz t):∀n sz t,b≠.front n sz t:=by
 cases a <;> cases b <;> simp_all [Kind]
theorem Kind.cur {G G':Gh}{id:Nat}{a b:lR}(h:Kind G G' id a b) (ha:a≠.free) (hn:∀n sz t,a≠.front n sz t):Bb (G.cur id)≤Bb (G'.cur id)∧(Bb (G.cur id)=Bb (G'.cur id)→G'.cur id=G.cur id):=by
 cases a <;> cases b <;> simp_all [Kind]
theorem Ed.live {G G':Gh}{h h':kT}(m:Ed G h G' h') {id:Nat}(hl:live h id):live h' id∧G'.oP id=G.oP id:=by
 obtain⟨bl,h1,h2⟩:=hl
 obtain⟨bl',h3,h4⟩:=m.kinds id bl h1
 exact⟨⟨bl',h3,(h4.oP h2).1⟩,(h4.oP h2).2⟩
theorem Ed.nf {G G':Gh}{h h':kT}(m:Ed G h G' h') {id:Nat}(hl:Ae h id):Ae h' id∧Bb (G.cur id)≤Bb (G'.cur id)∧(Bb (G.cur id)=Bb (G'.cur id)→G'.cur id=G.cur id):=by
 obtain⟨bl,h1,h2,h3⟩:=hl
 obtain⟨bl',h4,h5⟩:=m.kinds id bl h1
 exact⟨⟨bl',h4,(h5.oP h2).1,h5.nf h2 h3⟩,h5.cur h2 h3⟩
theorem lP.mono {G G':Gh}{h h':kT}(m:Ed G h G' h') {v:kP}{V:Value}(r:lP G h v V):lP G' h' v V:=by
 induction r with
 | p v V hp=>exact .p v V (hp.mono m.hmono)
 | agg cs C hl _ ih=>exact .agg cs C hl ih
 | tuple cs C hl _ ih=>exact .tuple cs C hl ih
 | nil=>exact .nil
 | own rows id n sz V hp hf hn hr hc =>
  obtain⟨bl',h3,h4⟩:=m.kinds id _ hf
  cases bl' with
  | front n' sz' t' =>
   obtain⟨h6,h7,_,h8⟩:=h4
   exact .own rows id n' sz' V (hp.mono m.hmono) h3 (by omega) (fun r hm=>by rw [h8 (by have:=List.length_pos_of_mem hm; omega)]; exact hr r hm)
    (fun e=>by rw [h7 (by omega)]; exact hc (by omega))
  | vec tot sz' cs =>
   obtain rfl:rows=[]:=List.eq_nil_of_length_eq_zero (by have:=h4.1; omega)
   exact .ownv id V (hp.mono m.hmono) ⟨_,h3,by simp,by simp⟩
  | gone =>
   exact .ownv id V (hp.mono m.hmono) ⟨_,h3,by simp,by simp⟩
  | _=>exact h4.elim
 | ownv id V hp hb=>exact .ownv id V (hp.mono m.hmono) (m.nf hb).1
 | vslice id tot off len sz b cap hl ht hc hv =>
  obtain⟨h1,h2,h3⟩:=m.nf hl
  exact .vslice id tot off len sz b cap h1 (by omega) hc fun e=>by rw [h3 (by omega)]; exact hv (by omega)
 | vptr id tot off b hl ht hv =>
  obtain⟨h1,h2,h3⟩:=m.nf hl
  exact .vptr id tot off b h1 (by omega) fun e=>by rw [h3 (by omega)]; exact hv (by omega)
 | ptr id off hl=>obtain⟨h1,h2⟩:=m.live hl; rw [←h2]; exact .ptr id off h1
 | mslice id off len sz cap hl hc=>obtain⟨h1,h2⟩:=m.live hl; rw [←h2]; exact .mslice id off len sz cap h1 hc
 | mslice0 id off sz cap a=>exact .mslice0 id off sz cap a
 | map id hl=>obtain⟨h1,h2⟩:=m.live hl; rw [←h2]; exact .map id h1
 | func f first cap F C hlf hlc _ _ ihf ihc=>exact .func f first cap F C hlf hlc ihf ihc
 | iface t v V _ ih=>exact .iface t v V ih
end
section
open Go Go.RowKit
section inv
variable {G:Gh}{h:kT}{V:Value}
theorem lP.rB {k:IntKind}{n:Int}(r:lP G h (.int k n) V):V=.int k n:=by
 cases r with | p _ _ hp=>cases hp; rfl
theorem lP.zY {b:Bool}(r:lP G h (.bool b) V):V=.bool b:=by
 cases r with | p _ _ hp=>cases hp; rfl
theorem lP.Ao {s:List UInt8}(r:lP G h (.str s) V):V=.string ⟨s.toArray⟩:=by
 cases r with | p _ _ hp=>cases hp; rfl
theorem lP.wK {rows:List (List kP)}{t:Tok}(r:lP G h (.slice rows t) V):rI G.H (.slice rows .no) V:=by
 cases r with
 | p _ _ hp =>
  cases hp with
  | slice0 a cap=>exact .slice0 a cap
  | slice rows b off cap sz V hr hc hH hk hV=>exact .slice rows b off cap sz V hr hc hH hk hV
 | nil=>exact .slice0 none 0
 | own rows id n sz V hp hf hn hr hc=>exact hp
 | ownv id V hp hb=>exact hp
theorem lP.tG {id tot off len sz:Nat}(r:lP G h (.vslice id tot off len sz) V):∃b cap,V=.slice (some ⟨b,off,none⟩) len cap∧Ae h id∧tot≤Bb (G.cur id)∧len≤cap ∧
   (tot=Bb (G.cur id)→∃l cap0,G.cur id=.slice (some ⟨b,0,none⟩) tot cap0∧off=l * sz∧l+len≤tot∧cap=cap0 - l):=by
 cases r with
 | p _ _ hp=>cases hp
 | vslice _ _ _ _ _ b cap hl ht hc hv=>exact⟨b,cap,rfl,hl,ht,hc,hv⟩
theorem lP.EX {id tot off:Nat}(r:lP G h (.vptr id tot off) V):∃b,V=.pointer (some ⟨b,off,none⟩)∧Ae h id∧tot≤Bb (G.cur id)∧(tot=Bb (G.cur id)→∃cap0,G.cur id=.slice (some ⟨b,0,none⟩) tot cap0):=by
 cases r with
 | p _ _ hp=>cases hp
 | vptr _ _ _ b hl ht hv=>exact⟨b,rfl,hl,ht,hv⟩
theorem lP.zV {cs:List kP}(r:lP G h (.agg cs) V):∃C:Array Value,V=.agg C∧cs.length=C.size∧∀(i:Nat) (v:kP),cs[i]?=some v→lP G h v (C.getD i undef):=by
 cases r with
 | p _ _ hp=>cases hp with | agg cs C hl hh=>exact⟨C,rfl,hl,fun i v hv=>.p _ _ (hh i v hv)⟩
 | agg cs C hl hh=>exact⟨C,rfl,hl,hh⟩
theorem lP.Fl {cs:List kP}(r:lP G h (.tuple cs) V):∃C:Array Value,V=.tuple C∧cs.length=C.size∧∀(i:Nat) (v:kP),cs[i]?=some v→lP G h v (C.getD i undef):=by
 cases r with
 | p _ _ hp=>cases hp with | tuple cs C hl hh=>exact⟨C,rfl,hl,fun i v hv=>.p _ _ (hh i v hv)⟩
 | tuple cs C hl hh=>exact⟨C,rfl,hl,hh⟩
theorem lP.UG (r:lP G h (.tuple []) V):V=undef:=by
 obtain⟨C,rfl,hl,_⟩:=r.Fl
 have:C=#[]:=Array.eq_empty_of_size_eq_zero hl.symm
 subst this; rfl
theorem lP.undef:lP G h (.tuple []) Go.undef:=.p _ _ (.tuple [] #[] rfl (by simp))
theorem lP.x6 {id off:Nat}(r:lP G h (.ptr id off) V):V=.pointer (some ⟨G.oP id,off,none⟩)∧live h id:=by
 cases r with
 | p _ _ hp=>cases hp
 | ptr id off hl=>exact⟨rfl,hl⟩
theorem lP.Hd {id:Nat}(r:lP G h (.map id) V):V=.map (some (G.oP id))∧live h id:=by
 cases r with
 | p _ _ hp=>cases hp
 | map id hl=>exact⟨rfl,hl⟩
theorem lP.Gd (r:lP G h .nilmap V):V=.map none:=by
 cases r with | p _ _ hp=>cases hp; rfl
theorem lP.EI {cs:List kP}(r:lP G h (.pptr cs) V):rI G.H (.pptr cs) V:=by
 cases r with | p _ _ hp=>exact hp
theorem lP.Az {id off len sz:Nat}(r:lP G h (.mslice id off len sz) V) :
  ∃a cap,V=.slice a len cap∧len≤cap∧(0 < len→a=some ⟨G.oP id,off,none⟩∧live h id):=by
 cases r with
 | p _ _ hp=>cases hp
 | mslice id off len sz cap hl hc=>exact⟨_,cap,rfl,hc,fun _=>⟨rfl,hl⟩⟩
 | mslice0 id off sz cap a=>exact⟨a,cap,rfl,ak5 _,fun hh=>absurd hh (by omega)⟩
theorem lP.GN {f:Nat}{first cap:List kP}(r:lP G h (.func f first cap) V) :
  ∃F C:Array Value,V=.func (.func f) F C∧first.length=F.size∧cap.length=C.size ∧
   (∀(i:Nat) (v:kP),first[i]?=some v→lP G h v (F.getD i Go.undef))∧(∀(i:Nat) (v:kP),cap[i]?=some v→lP G h v (C.getD i Go.undef)):=by
 cases r with
 | p _ _ hp=>cases hp with | func f=>exact⟨#[],#[],rfl,rfl,rfl,by simp,by simp⟩
 | func f first cap F C hlf hlc hf hc=>exact⟨F,C,rfl,hlf,hlc,hf,hc⟩
theorem lP.C_ {t:Nat}{v:kP}(r:lP G h (.iface t v) V):∃W,V=.iface t W∧lP G h v W:=by
 cases r with
 | p _ _ hp=>cases hp with | iface t v V hh=>exact⟨_,rfl,.p _ _ hh⟩
 | iface t v V hh=>exact⟨_,rfl,hh⟩
theorem lP.Cz {v:kP}(r:lP G h v V) (hk:v.mH=true):V.oneCell'=true∧V.cells=#[V]:=by
 cases r with
 | p _ _ hp=>cases hp <;> simp_all [kP.mH,Value.oneCell',Value.cells]
 | own _ _ _ _ _ hp=>cases hp <;> simp [Value.oneCell',Value.cells]
 | ownv _ _ hp=>cases hp <;> simp [Value.oneCell',Value.cells]
 | _=>simp_all [kP.mH,Value.oneCell',Value.cells]
theorem rI.Cz {H:Nat→Nat→Option Value}{v:kP}(r:rI H v V) (hk:v.mH=true):V.oneCell'=true∧V.cells=#[V]:=by
 cases r <;> simp_all [kP.mH,Value.oneCell',Value.cells]
end inv
theorem FE (G:Gh) (h:kT) (v:Value):lP G h (EC v) v:=by
 unfold EC
 split
 ·exact .p _ _ (.bool _)
 ·exact .p _ _ (.int _ _)
 ·rename_i s
  have:(⟨s.data.toList.toArray⟩:ByteArray)=s:=by cases s; simp
  have r:=lP.p (G:=G) (h:=h) _ _ (rI.str (H:=G.H) s.data.toList)
  rw [this] at r; exact r
 ·exact .p _ _ .nilptr
 ·exact .nil
 ·exact .p _ _ .nilmap
 ·exact .p _ _ .nilfunc
 ·exact .p _ _ .niliface
 ·exact .p _ _ (.junk _)
theorem wX (G:Gh) (h:kT) (v:Value):lP G h (ofConst v) v:=by
 unfold ofConst
 split
 ·rename_i cs
  refine .agg _ _ (by simp) fun i u hu=>?_
  simp only [ag6,ac5,ad5] at hu
  obtain⟨x,hx,rfl⟩:=hu
  have:cs.getD i undef=x:=by rw [ab8,hx]; rfl
  rw [this]
  exact FE G h x
 ·rename_i cs
  split
  ·rename_i hn
   have:cs=#[]:=by cases cs; simp_all
   subst this
   exact .p _ _ (.tuple [] #[] rfl (by simp))
  ·exact .p _ _ (.junk _)
 ·exact FE G h v
def QP (A:Cd) (H:Nat→Nat→Option Value):Prop:=∀g cs,A.glob g=some cs→rI H (.pptr cs) (.pointer (some ⟨g,0,none⟩))
theorem QP.mono {A:Cd}{H H':Nat→Nat→Option Value}(hh:∀b k v,H b k=some v→H' b k=some v) (g:QP A H):QP A H':=fun i cs hc=>(g i cs hc).mono hh
structure tM (A:Cd) (G:Gh) (h:kT) (w:World):Prop where
 cells:QP A G.H
 size:∀g n,A.gsz g=some n→(∀id,owner G h id≠some g)∧∃C e fr,w.heap[g]?=some (.cells C e fr)∧C.size=n
theorem tM.mono {A:Cd}{G G':Gh}{h h':kT}{w w':World}(gl:tM A G h w) (x:Ext G h w G' h' w'):tM A G' h' w' :=
 ⟨gl.cells.mono x.hmono,fun g n hg=>by
  obtain⟨h1,C,e,fr,h2,h3⟩:=gl.size g n hg
  have hlt:g < w.heap.size:=(Array.getElem?_eq_some_iff.1 h2).1
  exact⟨fun id ho=>h1 id (x.own id g ho hlt),C,e,fr,by rw [(x.frame g hlt h1).1]; exact h2,h3⟩⟩
theorem tM.sub {A:Cd}{G G':Gh}{h h':kT}{w:World}(gl:tM A G h w) (hH:G'.H=G.H) (ho:∀id b,owner G' h' id=some b→∃id',owner G h id'=some b):tM A G' h' w :=
 ⟨by rw [hH]; exact gl.cells,fun g n hg=>by
  obtain⟨h1,h2⟩:=gl.size g n hg
  exact⟨fun id hi=>by obtain⟨id',h3⟩:=ho id g hi; exact h1 id' h3,h2⟩⟩
structure qH (J:Act→Prop) (G:Gh) (h:kT) (ρ:List kP) (a:Act):Prop where
 len:ρ.length=a.tmps.size
 rel:∀(i:Nat) (v:kP),ρ[i]?=some v→lP G h v (a.tmps.getD i undef)
 df:J a
theorem qH.mono {J:Act→Prop}{G G':Gh}{h h':kT}{ρ:List kP}{a:Act}(s:qH J G h ρ a) (m:Ed G h G' h'):qH J G' h' ρ a :=
 ⟨s.len,fun i v hv=>(s.rel i v hv).mono m,s.df⟩
theorem qH.get {J:Act→Prop}{G:Gh}{h:kT}{ρ:List kP}{a:Act}(s:qH J G h ρ a) (t:Nat):lP G h (ρ.getD t .junk) (a.tmps.getD t undef):=by
 rw [af0]
 cases hv:ρ[t]? with
 | none=>exact .p _ _ (.junk _)
 | some v=>exact s.rel t v hv
theorem qH.eval {J:Act→Prop}{A:Cd}{G:Gh}{h:kT}{ρ:List kP}{a:Act}(s:qH J G h ρ a) (gl:QP A G.H) (x:Operand):lP G h (tB A ρ x) (a.eval x):=by
 cases x with
 | tmp t=>exact s.get t
 | const v=>exact wX G h v
 | global g =>
  simp only [tB]
  cases hg:A.glob g with
  | none=>exact .p _ _ (.junk _)
  | some cs=>exact .p _ _ (gl g cs hg)
 | func f=>exact .p _ _ (.func f)
theorem qH.put {J:Act→Prop}{G:Gh}{h:kT}{ρ:List kP}{a:Act}(s:qH J G h ρ a) (dst:Option Tmp) {v:kP}{V:Value}(r:lP G h v V) (hj:J (a.put dst V)):qH J G h (sH ρ dst v) (a.put dst V):=by
 cases dst with
 | none=>exact s
 | some d =>
  refine⟨by simp [sH,Act.put,s.len],fun i u hu=>?_,hj⟩
  simp only [sH,List.getElem?_set] at hu
  simp only [Act.put,ab8,Array.getElem?_setIfInBounds]
  by_cases hdi:d=i
  ·subst hdi
   have hlt:d < ρ.length:=by
    by_cases hlt:d < ρ.length
    ·exact hlt
    ·simp [hlt] at hu
   simp only [hlt,if_true] at hu
   cases hu
   rw [s.len] at hlt
   simpa [hlt] using r
  ·simp only [hdi,if_false] at hu ⊢
   simpa [ab8] using s.rel i u hu
theorem BI {G:Gh}{h:kT}{v:kP}{V:Value}(r:lP G h v V) (hk:v.cells.all kP.mH=true) :
  v.cells.length=V.cells.size∧∀(i:Nat) (u:kP),v.cells[i]?=some u→u.mH=true∧lP G h u (V.cells.getD i undef):=by
 by_cases ha:∃cs,v=.agg cs
 ·obtain⟨cs,rfl⟩:=ha
  obtain⟨C,rfl,hl,hr⟩:=r.zV
  simp only [kP.cells,Value.cells] at *
  exact⟨hl,fun i u hu=>⟨by simpa using ag3.1 hk u (am4 hu),hr i u hu⟩⟩
 ·have hc:v.cells=[v]:=by cases v <;> simp_all [kP.cells]
  rw [hc] at hk ⊢
  have hk':v.mH=true:=by simpa using hk
  obtain⟨_,h2⟩:=r.Cz hk'
  rw [h2]
  refine⟨rfl,fun i u hu=>?_⟩
  cases i with
  | zero=>simp at hu; subst hu; exact⟨hk',by simpa using r⟩
  | succ i=>simp at hu
end
section
open Go Go.RowKit
section
variable {P:Program}{G:Gh}{h:kT}{w:World}{x y v:kP}{X Y:Value}
theorem DC (op:BinOp) (t:TypeId) (xo yo:Operand) (X Y:Value) (hx:(∀cs,X≠.agg cs)∧X≠.nilIface):(eqGuard op t xo yo X Y).run P w=.ok () w:=by
 obtain⟨h1,h2⟩:=hx
 cases op <;> cases X <;> first
  | (exact absurd rfl (h1 _); done)
  | (exact absurd rfl h2; done)
  | (unfold eqGuard; simp [Sem.run_pure]; done)
  | (unfold eqGuard; simp [Sem.run_pure]; split <;> simp_all [Sem.run_pure]; done)
theorem oW {t:TypeId}{n:Nat}(hn:o0 P t=some n):(Go.sizeOf t).run P w=.ok n w:=by
 unfold o0 at hn
 cases hu:P.info? t with
 | none=>simp [hu] at hn
 | some ti=>simp [hu] at hn; simp [Go.sizeOf,Go.typeInfo,hu,hn]
theorem Gf {t:TypeId}{g:Bool}(hg:tZ P t=some g):(isAgg t).run P w=.ok g w:=by
 unfold tZ at hg
 cases hu:P.underlying t with
 | none=>simp [hu] at hg
 | some d=>cases d <;> simp_all [isAgg,run_underlying,Sem.run_pure]
theorem run_equalIn_bool {t:TypeId}(ht:P.underlying t=some .bool) (d:Nat) (a b:Bool):(Op.equalIn (d+1) t (.bool a) (.bool b)).run P w=.ok (a == b) w:=by
 simp only [Op.equalIn,Sem.run_bind,run_underlying ht,Result.andThen_ok,Sem.run_pure]
theorem Kx {op:BinOp}(t:TypeId) (xo yo:Operand) (hb:kZ op x y=some v) (hx:lP G h x X) (hy:lP G h y Y) :
  ∃V,(do eqGuard op t xo yo X Y; binOp op t X Y:Sem Value).run P w=.ok V w∧lP G h v V:=by
 unfold kZ at hb
 split at hb
 ·rename_i k a k' b
  have:=hx.rB; subst this
  have:=hy.rB; subst this
  have hg:=DC (P:=P) (w:=w) op t xo yo (.int k a) (.int k' b) (by simp)
  simp only [Sem.run_bind,hg,Result.andThen_ok]
  cases op <;> (try simp only at hb) <;> (try split at hb) <;> (try simp only [ab3,reduceCtorEq] at hb)
  all_goals (try subst hb)
  all_goals (try (rename_i hk; simp only [ne_eq,Decidable.not_not] at hk; try subst hk))
  all_goals (try (split at hb))
  all_goals (try (cases hb; done))
  all_goals (try (simp only [ab3] at hb; subst hb))
  all_goals refine⟨_,?_,.p _ _ (by first | exact .int _ _ | exact .bool _)⟩
  all_goals (try simp_all [binOp,Op.intArith,Op.intCmp,Op.intDiv,Op.intBits,Op.shift,Sem.run_pure])
  all_goals (intro hlt; omega)
 ·rename_i a b
  have:=hx.Ao; subst this
  have:=hy.Ao; subst this
  have hg:=DC (P:=P) (w:=w) op t xo yo (.string ⟨a.toArray⟩) (.string ⟨b.toArray⟩) (by simp)
  simp only [Sem.run_bind,hg,Result.andThen_ok]
  cases op <;> simp only [reduceCtorEq] at hb <;> (try split at hb) <;> simp only [ab3,reduceCtorEq] at hb
  all_goals subst hb
  ·rename_i hl
   refine⟨.string (⟨a.toArray⟩++⟨b.toArray⟩),?_,?_⟩
   ·show(Op.stringOp .add _ _).run P w=_
    refine run_string_add_sum _ _ _ ?_
    show a.toArray.size+b.toArray.size≤_
    simp only [List.size_toArray]; omega
   ·have:(⟨a.toArray⟩:ByteArray)++⟨b.toArray⟩=⟨(a++b).toArray⟩:=by
     apply ByteArray.ext; simp
    rw [this]; exact .p _ _ (.str _)
  all_goals exact⟨_,by simp [binOp,Op.stringOp,Sem.run_pure],.p _ _ (.bool _)⟩
 ·cases hb
theorem Q3 {op:BinOp}{t:TypeId}(ht:P.underlying t=some .bool) (xo yo:Operand) (hb:Fx op x y=some v) (hx:lP G h x X) (hy:lP G h y Y) :
  ∃V,(do eqGuard op t xo yo X Y; binOp op t X Y:Sem Value).run P w=.ok V w∧lP G h v V:=by
 unfold Fx at hb
 split at hb
 all_goals first | (cases hb; done) | skip
 all_goals
  rename_i a b
  have:=hx.zY; subst this
  have:=hy.zY; subst this
  simp only [ab3] at hb; subst hb
  refine⟨_,?_,.p _ _ (.bool _)⟩
  have he:=run_equalIn_bool (P:=P) (w:=w) ht 9999 a b
  simp only [Sem.run_bind,DC (P:=P) (w:=w) _ t xo yo (.bool a) (.bool b) (by simp),Result.andThen_ok]
  simp only [binOp,Sem.run_bind,Op.equal,Op.maxDepth,he,Result.andThen_ok,Sem.run_pure]
theorem WX {op:UnOp}(hb:x8 op x=some v) (hx:lP G h x X):∃V,(Op.unary op X).run P w=.ok V w∧lP G h v V:=by
 unfold x8 at hb
 split at hb
 all_goals first | (cases hb; done) | skip
 all_goals simp only [ab3] at hb; subst hb
 ·have:=hx.rB; subst this
  exact⟨_,by simp [Op.unary,Op.intArith,Sem.run_pure],.p _ _ (.int _ _)⟩
 ·have:=hx.rB; subst this
  exact⟨_,by simp [Op.unary,Op.intBits,Sem.run_pure],.p _ _ (.int _ _)⟩
 ·have:=hx.zY; subst this
  exact⟨_,by simp [Op.unary,Sem.run_pure],.p _ _ (.bool _)⟩
theorem Ky {s d:TypeId}{k k0:IntKind}(hs:P.underlying s=some (.int k0)) (hd:P.underlying d=some (.int k)) (hb:vZ k x=some v) (hx:lP G h x X) :
  ∃V,(convert s d X).run P w=.ok V w∧lP G h v V:=by
 unfold vZ at hb
 split at hb <;> simp only [ab3,reduceCtorEq] at hb
 subst hb
 have:=hx.rB; subst this
 exact⟨_,by simp [convert,run_underlying hs,run_underlying hd,Conv.intToInt,Sem.run_pure],.p _ _ (.int _ _)⟩
theorem Re {c a b:kP}{C A B:Value}(hb:lV c a b=some v) (hc:lP G h c C) (ha:lP G h a A) (hbb:lP G h b B) :
  ∃V,((do pure (.value (if ←asBool C then A else B))):Sem Next).run P w=.ok (.value V) w∧lP G h v V:=by
 unfold lV at hb
 split at hb <;> simp only [ab3,reduceCtorEq] at hb
 rename_i g
 subst hb
 have:=hc.zY; subst this
 refine⟨bif g then A else B,?_,by cases g <;> assumption⟩
 cases g <;> simp [asBool,Sem.run_pure]
theorem KA {i:Nat}(hb:lT i x=some v) (hx:lP G h x X):∃V,(Instr.extract X i).run P w=.ok V w∧lP G h v V:=by
 unfold lT at hb
 split at hb
 ·obtain⟨C,rfl,hl,hr⟩:=hx.Fl
  have hlt:i < C.size:=by rw [←hl]; exact(ab2.1 hb).1
  refine⟨C.getD i undef,?_,hr i v hb⟩
  simp [Instr.extract,Array.getElem?_eq_getElem hlt,Sem.run_pure]
 ·cases hb
theorem Cl {g:Bool}{n off:Nat}{cs:List kP}{C:Array Value}{t:TypeId}(hg:tZ P t=some g) (hn:o0 P t=some n)
  (hb:apart g n cs off=some v) (hl:cs.length=C.size) (hr:∀(i:Nat) (u:kP),cs[i]?=some u→lP G h u (C.getD i undef)) :
  ∃V,(part t C off).run P w=.ok V w∧lP G h v V:=by
 have hagg:=Gf (w:=w) hg
 have hsz:=oW (w:=w) hn
 unfold apart at hb
 cases g with
 | true =>
  simp only [cond_true] at hb
  split at hb <;> simp only [ab3,reduceCtorEq] at hb
  rename_i hle
  subst hb
  refine⟨.agg (C.extract off (off+n)),?_,.agg _ _ ?_ ?_⟩
  ·simp [part,hagg,hsz]
  ·simp; omega
  ·intro i u hu
   have hi:i < n:=by
    have:=(ab2.1 hu).1
    simp at this; omega
   rw [af4,if_pos hi,ag5] at hu
   have:=hr _ _ hu
   have hsz2:off+i < C.size:=by omega
   rw [ab8] at this ⊢
   rw [Array.getElem?_extract,if_pos (by omega)]
   exact this
 | false =>
  simp only [cond_false] at hb
  have hlt:off < C.size:=by rw [←hl]; exact(ab2.1 hb).1
  exact⟨C.getD off undef,by simp [part,hagg,Array.getElem?_eq_getElem hlt,Sem.run_pure],hr off v hb⟩
end
end
section
open Go Go.RowKit
section
variable {P:Program}{G:Gh}{h:kT}{w:World}{x y v:kP}{X Y:Value}
theorem O0 {t ft:TypeId}{fs:Array Field}{f:Nat}{fd:Field}{g:Bool}{n:Nat}(ht:P.underlying t=some (.struct fs)) (hf:fs[f]?=some fd)
  (hg:tZ P fd.type=some g) (hn:o0 P fd.type=some n) (hb:uH g n fd.offset x=some v) (hx:lP G h x X) :
  ∃V,(Instr.field t X f).run P w=.ok V w∧lP G h v V:=by
 unfold uH at hb
 split at hb
 ·obtain⟨C,rfl,hl,hr⟩:=hx.zV
  obtain⟨V,h1,h2⟩:=Cl (w:=w) hg hn hb hl hr
  exact⟨V,by simp [Instr.field,run_underlying ht,hf,asAgg,h1,Sem.run_pure],h2⟩
 ·cases hb
theorem JE {t:TypeId}(ht:P.underlying t=some .string) (hb:mX x y=some v) (hx:lP G h x X) (hy:lP G h y Y) :
  ∃V,(Instr.index t X Y).run P w=.ok V w∧lP G h v V:=by
 unfold mX at hb
 split at hb
 ·rename_i s k n
  split at hb
  ·rename_i h0
   have:=hx.Ao; subst this
   have:=hy.rB; subst this
   cases hs:s[n.toNat]? with
   | none=>simp [hs] at hb
   | some b =>
    simp [hs] at hb; subst hb
    refine⟨_,?_,.p _ _ (.int _ _)⟩
    have hget:(⟨s.toArray⟩:ByteArray)[n.toNat]?=some b:=by
     have hlt:n.toNat < s.length:=(ab2.1 hs).1
     have hb2:s[n.toNat]=b:=(ab2.1 hs).2
     have hsz:n.toNat < (⟨s.toArray⟩:ByteArray).size:=by show n.toNat < s.toArray.size; simpa using hlt
     rw [getElem?_pos (c:=(⟨s.toArray⟩:ByteArray)) (i:=n.toNat) hsz]
     rw [←hb2]; rfl
    simp [Instr.index,asIntOf,run_underlying ht,h0,hget,Sem.run_pure]
  ·cases hb
 ·cases hb
theorem JB {t e:TypeId}{len sz:Nat}{g:Bool}(ht:P.underlying t=some (.array len e)) (hg:tZ P e=some g) (hn:o0 P e=some sz)
  (hb:HW g len sz x y=some v) (hx:lP G h x X) (hy:lP G h y Y):∃V,(Instr.index t X Y).run P w=.ok V w∧lP G h v V:=by
 unfold HW at hb
 split at hb
 ·rename_i cs k n
  split at hb
  ·rename_i h0
   obtain⟨C,rfl,hl,hr⟩:=hx.zV
   have:=hy.rB; subst this
   obtain⟨V,h1,h2⟩:=Cl (w:=w) hg hn hb hl hr
   exact⟨V,by simp [Instr.index,asIntOf,run_underlying ht,h0,oW hn,h1,Sem.run_pure],h2⟩
  ·cases hb
 ·cases hb
theorem I6 {b:Option kP}{B:Option Value}{dflt y0 n:Nat}{code:BoundsCode}(hb:uU b dflt=some n) (hle:n≤y0)
  (hr:∀u,b=some u→∃U,B=some U∧lP G h u U) (hnone:b=none→B=none) :
  (match B with | some U=>Instr.sliceBound U y0 code | none=>(pure dflt:Sem Nat)).run P w=.ok n w:=by
 unfold uU at hb
 cases b with
 | none=>rw [hnone rfl]; simp at hb; subst hb; simp [Sem.run_pure]
 | some u =>
  obtain⟨U,rfl,hU⟩:=hr u rfl
  cases u <;> simp at hb
  rename_i k m
  obtain⟨h0,rfl⟩:=hb
  have:=hU.rB; subst this
  have:(0:Int)≤m∧m≤(y0:Int):=⟨h0,by omega⟩
  simp [Instr.sliceBound,asIntOf,this,Sem.run_pure]
theorem xB {isS:Bool}{lo hi:Option kP}{LO HI:Option Value}{len cap l u:Nat}(hlo:uU lo 0=some l) (hhi:uU hi len=some u) (hlu:l≤u) (hlen:len≤cap) (huc:u≤cap)
  (hrl:∀a,lo=some a→∃U,LO=some U∧lP G h a U) (hnl:lo=none→LO=none) (hrh:∀a,hi=some a→∃U,HI=some U∧lP G h a U) (hnh:hi=none→HI=none) :
  (Instr.sliceBounds isS len cap LO HI none).run P w=.ok (l,u,cap) w:=by
 have h1:=I6 (P:=P) (w:=w) (code:=if isS then .sliceAcap else .sliceAlen) hhi huc hrh hnh
 have h2:=I6 (P:=P) (w:=w) (code:=.sliceB) hlo hlu hrl hnl
 unfold Instr.sliceBounds
 cases HI with
 | none =>
  simp only [Sem.run_pure,Result.ok.injEq,and_true] at h1; subst h1
  cases LO with
  | none=>simp only [Sem.run_pure,Result.ok.injEq,and_true] at h2; subst h2; simp [Sem.run_pure]
  | some L=>simp only [] at h2; simp [h2,Sem.run_pure]
 | some Hh =>
  simp only [] at h1
  cases LO with
  | none=>simp only [Sem.run_pure,Result.ok.injEq,and_true] at h2; subst h2; simp [h1,Sem.run_pure]
  | some L=>simp only [] at h2; simp [h1,h2,Sem.run_pure]
theorem ac4 {f:Operand→kP}{F:Operand→Value}(hf:∀o,lP G h (f o) (F o)) (o:Option Operand) :
  (∀a,o.map f=some a→∃U,o.map F=some U∧lP G h a U)∧(o.map f=none→o.map F=none):=by
 cases o with
 | none=>simp
 | some o=>exact⟨fun a ha=>⟨F o,rfl,by simp at ha; subst ha; exact hf o⟩,by simp⟩
section slices
variable {lo hi:Option kP}{LO HI:Option Value}
 (hrl:∀a,lo=some a→∃U,LO=some U∧lP G h a U) (hnl:lo=none→LO=none) (hrh:∀a,hi=some a→∃U,HI=some U∧lP G h a U) (hnh:hi=none→HI=none)
include hrl hnl hrh hnh
theorem JG {t:TypeId}(ht:P.underlying t=some .string) (hb:oY x lo hi=some v) (hx:lP G h x X) :
  ∃V,(Instr.sliceAt t X LO HI none).run P w=.ok V w∧lP G h v V:=by
 unfold oY at hb
 split at hb
 ·rename_i s
  have:=hx.Ao; subst this
  split at hb
  ·rename_i l u hl hu
   split at hb <;> simp only [ab3,reduceCtorEq] at hb
   rename_i hlu
   subst hb
   have hsz:(⟨s.toArray⟩:ByteArray).size=s.length:=by show s.toArray.size=_; simp
   have hr:=xB (P:=P) (w:=w) (isS:=false) (len:=s.length) (cap:=s.length) hl hu hlu.1 (ac9 _) hlu.2 hrl hnl hrh hnh
   refine⟨.string ((⟨s.toArray⟩:ByteArray).extract l u),?_,?_⟩
   ·simp [Instr.sliceAt,run_underlying ht,Instr.slice,hsz,hr,Sem.run_pure]
   ·have:(⟨s.toArray⟩:ByteArray).extract l u=⟨((s.drop l).take (u - l)).toArray⟩:=by
     apply ByteArray.ext
     simp [ByteArray.data_extract]
    rw [this]; exact .p _ _ (.str _)
  ·cases hb
 ·cases hb
theorem JF {t e:TypeId}{len sz:Nat}(ht:P.underlying t=some (.array len e)) (hn:o0 P e=some sz) (hb:H7 len sz x lo hi=some v) (hx:lP G h x X) :
  ∃V,(Instr.sliceAt t X LO HI none).run P w=.ok V w∧lP G h v V:=by
 have hadd:∀b off k,Addr.add ⟨b,off,none⟩ k=⟨b,off+k,none⟩:=by
  intro b off k; unfold Addr.add; split <;> simp_all
 unfold H7 at hb
 split at hb
 ·rename_i id off
  split at hb <;> simp only [ab3,reduceCtorEq] at hb
  rename_i hlen
  subst hb
  obtain⟨rfl,hl⟩:=hx.x6
  have h1:=hnl rfl
  have h2:=hnh rfl
  subst h1; subst h2
  refine⟨.slice (some ⟨G.oP id,off,none⟩) len len,?_,.mslice _ _ _ _ _ hl (ac9 _)⟩
  simp [Instr.sliceAt,run_underlying ht,Instr.sureAddr,Instr.sliceBounds,oW hn,Sem.run_pure,hadd]
 ·cases hb
theorem KJ {t e:TypeId}{sz:Nat}(ht:P.underlying t=some (.slice e)) (hn:o0 P e=some sz) (hb:uV sz x lo hi=some v) (hx:lP G h x X) :
  ∃V,(Instr.sliceAt t X LO HI none).run P w=.ok V w∧lP G h v V:=by
 unfold uV at hb
 split at hb
 ·rename_i rows tok
  have hp:=hx.wK
  split at hb
  ·rename_i l u hl hu
   split at hb <;> simp only [ab3,reduceCtorEq] at hb
   rename_i hlu
   obtain⟨hlu1,hlu2,hall⟩:=hlu
   subst hb
   cases hp with
   | slice0 a cap =>
    simp only [List.length_nil,Nat.le_zero_eq] at hlu2
    subst hlu2
    have hl0:l=0:=by omega
    subst hl0
    have hr:=xB (P:=P) (w:=w) (isS:=true) (len:=0) (cap:=cap) hl hu hlu1 (ak5 _) (ak5 _) hrl hnl hrh hnh
    refine⟨.slice (if cap=0 then a else a.map (·.add (0 * sz))) 0 cap,?_,.p _ _ (by simp only [List.drop_nil,List.take_nil]; exact .slice0 _ _)⟩
    simp [Instr.sliceAt,run_underlying ht,Instr.slice,oW hn,hr,Sem.run_pure]
   | slice rows b off cap sz' V hr0 hc hH hk hV =>
    have hr:=xB (P:=P) (w:=w) (isS:=true) (len:=rows.length) (cap:=cap) hl hu hlu1 hc (by omega) hrl hnl hrh hnh
    refine⟨.slice (if cap=l then some ⟨b,off,none⟩ else some (Addr.add ⟨b,off,none⟩ (l * sz))) (u - l) (cap - l),?_,?_⟩
    ·simp [Instr.sliceAt,run_underlying ht,Instr.slice,oW hn,hr,Sem.run_pure]
    ·have hlen:((rows.drop l).take (u - l)).length=u - l:=by simp; omega
     by_cases h0:u - l=0
     ·have:(rows.drop l).take (u - l)=[]:=by rw [h0]; simp
      rw [this,h0]; exact .p _ _ (.slice0 _ _)
     ·have hcl:¬cap=l:=by omega
      have hszz:sz'=sz:=by
       have hm:rows[l]?=some rows[l]:=ac1 (by omega)
       have h1:=hr0 rows[l] (am4 hm)
       have h2:=ag3.1 hall rows[l] (am4 hm)
       simp at h2; omega
      subst hszz
      rw [if_neg hcl]
      have hadd:Addr.add ⟨b,off,none⟩ (l * sz')=⟨b,off+l * sz',none⟩:=by
       unfold Addr.add; split <;> simp_all
      rw [hadd]
      have hget:∀i (row:List kP),((rows.drop l).take (u - l))[i]?=some row→rows[l+i]?=some row:=by
       intro i row hi
       rw [af4] at hi
       split at hi
       ·rwa [ag5] at hi
       ·cases hi
      have hmem:∀r∈(rows.drop l).take (u - l),r.length=sz':=fun r hrm=>hr0 r (List.mem_of_mem_drop (List.mem_of_mem_take hrm))
      generalize (rows.drop l).take (u - l)=R at hlen hget hmem
      rw [←hlen]
      refine .p _ _ (.slice R b (off+l * sz') (cap - l) sz' (fun k=>V (l * sz'+k)) hmem (by rw [hlen]; omega) ?_ ?_ ?_)
      ·intro i j row v h1 h2
       have:=hH (l+i) j row v (hget i row h1) h2
       rw [show off+l * sz'+(i * sz'+j)=off+((l+i) * sz'+j) by rw [ak3]; omega,this]
       congr 2; rw [ak3]; omega
      ·intro i j row v h1 h2; exact hk (l+i) j row v (hget i row h1) h2
      ·intro i j row v h1 h2
       have:=hV (l+i) j row v (hget i row h1) h2
       rw [show l * sz'+(i * sz'+j)=(l+i) * sz'+j by rw [ak3]; omega]; exact this
  ·cases hb
 ·rename_i id off len sz'
  obtain⟨a,cap,rfl,hlc,ha⟩:=hx.Az
  split at hb
  ·rename_i l u hl hu
   split at hb <;> simp only [ab3,reduceCtorEq] at hb
   rename_i hlu
   obtain⟨hlu1,hlu2,rfl⟩:=hlu
   subst hb
   have hr:=xB (P:=P) (w:=w) (isS:=true) (len:=len) (cap:=cap) hl hu hlu1 hlc (by omega) hrl hnl hrh hnh
   refine⟨.slice (if cap=l then a else a.map (·.add (l * sz'))) (u - l) (cap - l),?_,?_⟩
   ·simp [Instr.sliceAt,run_underlying ht,Instr.slice,oW hn,hr,Sem.run_pure]
   ·by_cases h0:u - l=0
    ·rw [h0]; exact .mslice0 _ _ _ _ _
    ·obtain⟨rfl,hlv⟩:=ha (by omega)
     rw [if_neg (by omega)]
     have hadd:Addr.add ⟨G.oP id,off,none⟩ (l * sz')=⟨G.oP id,off+l * sz',none⟩:=by
      unfold Addr.add; split <;> simp_all
     simp only [Option.map_some,hadd]
     exact .mslice id _ _ sz' _ hlv (by omega)
  ·cases hb
 ·rename_i id tot off len sz'
  obtain⟨b,cap,rfl,hnf,htot,hlc,hv⟩:=hx.tG
  split at hb
  ·rename_i l u hl hu
   split at hb
   case isFalse=>cases hb
   rename_i hlu
   obtain⟨hlu1,hlu2,rfl⟩:=hlu
   have hr:=xB (P:=P) (w:=w) (isS:=true) (len:=len) (cap:=cap) hl hu hlu1 hlc (by omega) hrl hnl hrh hnh
   have hrun:(Instr.sliceAt t (.slice (some ⟨b,off,none⟩) len cap) LO HI none).run P w=.ok (.slice (if cap=l then some ⟨b,off,none⟩ else(some (Addr.mk b off none)).map (·.add (l * sz'))) (u - l) (cap - l)) w:=by
    simp [Instr.sliceAt,run_underlying ht,Instr.slice,oW hn,hr,Sem.run_pure]
   have hadd:Addr.add ⟨b,off,none⟩ (l * sz')=⟨b,off+l * sz',none⟩:=by
    unfold Addr.add; split <;> simp_all
   split at hb <;> simp only [ab3] at hb <;> subst hb
   ·rename_i hor
    refine⟨_,hrun,?_⟩
    have haddr:(if cap=l then some (Addr.mk b off none) else(some (Addr.mk b off none)).map (·.add (l * sz')))=some ⟨b,off+l * sz',none⟩:=by
     split
     ·have:l=0:=by omega
      subst this; simp
     ·simp only [Option.map_some,hadd]
    rw [haddr]
    refine .vslice id tot _ _ sz' b _ hnf htot (by omega) fun e=>?_
    obtain⟨l0,cap0,h1,h2,h3,h4⟩:=hv e
    exact⟨l0+l,cap0,h1,by rw [h2,ak3],by omega,by omega⟩
   ·rename_i hor
    have h0:u - l=0:=by omega
    refine⟨_,hrun,?_⟩
    rw [h0]; exact .p _ _ (.slice0 _ _)
  ·cases hb
 ·cases hb
end slices
theorem M6 {t:TypeId}{ty:TypeId}(ht:P.underlying t=some .string) (hb:nW x=some v) (hx:lP G h x X) :
  ∃V,(Builtin.len_ #[t] ty #[X]).run P w=.ok V w∧lP G h v V:=by
 unfold nW at hb
 split at hb <;> simp only [ab3,reduceCtorEq] at hb
 subst hb
 rename_i s
 have:=hx.Ao; subst this
 refine⟨.int .i64 s.length,?_,.p _ _ (.int _ _)⟩
 have hsz:(⟨s.toArray⟩:ByteArray).size=s.length:=by show s.toArray.size=_; simp
 simp [Builtin.len_,run_underlying ht,goInt,hsz,Sem.run_pure]
theorem O2 {t:TypeId}{ty e:TypeId}(ht:P.underlying t=some (.slice e)) (hb:nH x=some v) (hx:lP G h x X) :
  ∃V,(Builtin.len_ #[t] ty #[X]).run P w=.ok V w∧lP G h v V:=by
 unfold nH at hb
 split at hb <;> simp only [ab3,reduceCtorEq] at hb <;> subst hb
 ·rename_i rows tok
  have hp:=hx.wK
  refine⟨.int .i64 rows.length,?_,.p _ _ (.int _ _)⟩
  cases hp <;> simp [Builtin.len_,run_underlying ht,goInt,Sem.run_pure]
 ·rename_i id off len sz
  obtain⟨a,cap,rfl,_⟩:=hx.Az
  exact⟨.int .i64 len,by simp [Builtin.len_,run_underlying ht,goInt,Sem.run_pure],.p _ _ (.int _ _)⟩
 ·rename_i id tot off len sz
  obtain⟨a,cap,rfl,_⟩:=hx.tG
  exact⟨.int .i64 len,by simp [Builtin.len_,run_underlying ht,goInt,Sem.run_pure],.p _ _ (.int _ _)⟩
theorem I0 (hb:C3 x y=some v) (hx:lP G h x X) (hy:lP G h y Y):∃V,(Builtin.max2 X Y).run P w=.ok V w∧lP G h v V:=by
 unfold C3 at hb
 split at hb <;> simp only [ab3,reduceCtorEq] at hb
 subst hb
 have:=hx.rB; subst this
 have:=hy.rB; subst this
 exact⟨_,by simp [Builtin.max2,Sem.run_pure],.p _ _ (.int _ _)⟩
theorem I3 (hb:N0 x y=some v) (hx:lP G h x X) (hy:lP G h y Y):∃V,(Builtin.min2 X Y).run P w=.ok V w∧lP G h v V:=by
 unfold N0 at hb
 split at hb <;> simp only [ab3,reduceCtorEq] at hb
 subst hb
 have:=hx.rB; subst this
 have:=hy.rB; subst this
 exact⟨_,by simp [Builtin.min2,Sem.run_pure],.p _ _ (.int _ _)⟩
theorem I4:∀{l:List kP}{L:List Value}{x v:kP}{X:Value},Rb x l=some v→lP G h x X→l.length=L.length→(∀(j:Nat) (u:kP) (U:Value),l[j]?=some u→L[j]?=some U→lP G h u U) →
  ∃V,(L.foldlM Builtin.min2 X).run P w=.ok V w∧lP G h v V
 | [],[],x,v,X,hb,hx,_,_=>by
  simp only [Rb,ab3] at hb
  subst hb
  exact⟨X,rfl,hx⟩
 | [],_::_,_,_,_,_,_,hl,_=>by simp at hl
 | _::_,[],_,_,_,_,_,hl,_=>by simp at hl
 | y::r,Y::R,x,v,X,hb,hx,hl,hr=>by
  simp only [Rb] at hb
  obtain⟨z,hz,hb⟩:=ab0.1 hb
  obtain⟨Z,e1,e2⟩:=I3 (P:=P) (w:=w) hz hx (hr 0 y Y rfl rfl)
  obtain⟨V,e3,e4⟩:=I4 (L:=R) hb e2 (by simpa using hl) fun j u U hu hU=>hr (j+1) u U hu hU
  exact⟨V,by simp only [List.foldlM_cons,Sem.run_bind,e1,Result.andThen_ok,e3],e4⟩
theorem I2:∀{l:List kP}{L:List Value}{x v:kP}{X:Value},I1 x l=some v→lP G h x X→l.length=L.length→(∀(j:Nat) (u:kP) (U:Value),l[j]?=some u→L[j]?=some U→lP G h u U) →
  ∃V,(L.foldlM Builtin.max2 X).run P w=.ok V w∧lP G h v V
 | [],[],x,v,X,hb,hx,_,_=>by
  simp only [I1,ab3] at hb
  subst hb
  exact⟨X,rfl,hx⟩
 | [],_::_,_,_,_,_,_,hl,_=>by simp at hl
 | _::_,[],_,_,_,_,_,hl,_=>by simp at hl
 | y::r,Y::R,x,v,X,hb,hx,hl,hr=>by
  simp only [I1] at hb
  obtain⟨z,hz,hb⟩:=ab0.1 hb
  obtain⟨Z,e1,e2⟩:=I0 (P:=P) (w:=w) hz hx (hr 0 y Y rfl rfl)
  obtain⟨V,e3,e4⟩:=I2 (L:=R) hb e2 (by simpa using hl) fun j u U hu hU=>hr (j+1) u U hu hU
  exact⟨V,by simp only [List.foldlM_cons,Sem.run_bind,e1,Result.andThen_ok,e3],e4⟩
theorem KC {t:TypeId}{fs:Array Field}{f:Nat}{fd:Field}{n:Nat}(ht:P.underlying t=some (.struct fs)) (hf:fs[f]?=some fd)
  (hn:o0 P fd.type=some (n+1)) (hb:kR fd.offset x=some v) (hx:lP G h x X) :
  ∃V,(Instr.fieldAt t X f).run P w=.ok V w∧lP G h v V:=by
 have run:∀b off,(Instr.fieldAt t (.pointer (some ⟨b,off,none⟩)) f).run P w=.ok (.pointer (some (Addr.add ⟨b,off,none⟩ fd.offset))) w:=by
  intro b off
  simp [Instr.fieldAt,run_underlying ht,hf,Instr.sureAddr,fieldPlace,oW hn,Sem.run_pure]
 have hadd:∀b off,Addr.add ⟨b,off,none⟩ fd.offset=⟨b,off+fd.offset,none⟩:=by
  intro b off; unfold Addr.add; split <;> simp_all
 unfold kR at hb
 split at hb <;> simp only [ab3,reduceCtorEq] at hb <;> subst hb
 ·rename_i id o
  obtain⟨rfl,hl⟩:=hx.x6
  exact⟨_,run _ _,by rw [hadd]; exact .ptr _ _ hl⟩
 ·rename_i id tot o
  obtain⟨b,rfl,h1,h2,h3⟩:=hx.EX
  exact⟨_,run _ _,by rw [hadd]; exact .vptr _ _ _ b h1 h2 h3⟩
 ·rename_i cs
  have hp:=hx.EI
  cases hp with
  | pptr cs b off V hH hk hV =>
   refine⟨_,run _ _,.p _ _ ?_⟩
   rw [hadd]
   refine .pptr _ b (off+fd.offset) (fun j=>V (fd.offset+j)) ?_ ?_ ?_
   ·intro j v hj; rw [ag5] at hj; have:=hH _ v hj; rw [←this]; congr 1; omega
   ·intro j v hj; rw [ag5] at hj; exact hk _ v hj
   ·intro j v hj; rw [ag5] at hj; exact hV _ v hj
theorem KG {t e:TypeId}{sz:Nat}(ht:P.underlying t=some (.slice e)) (hn:o0 P e=some sz) (hb:lH sz x y=some v) (hx:lP G h x X) (hy:lP G h y Y) :
  ∃V,(Instr.indexAt t X Y).run P w=.ok V w∧lP G h v V:=by
 have hadd:∀b off k,Addr.add ⟨b,off,none⟩ k=⟨b,off+k,none⟩:=by
  intro b off k; unfold Addr.add; split <;> simp_all
 unfold lH at hb
 split at hb
 ·rename_i rows tok k n
  have:=hy.rB; subst this
  split at hb
  ·rename_i h0
   split at hb
   ·rename_i row hrow
    split at hb <;> simp only [ab3,reduceCtorEq] at hb
    rename_i hlen
    subst hb
    have hp:=hx.wK
    have hlt:n.toNat < rows.length:=(ab2.1 hrow).1
    cases hp with
    | slice0 a cap=>simp at hlt
    | slice rows b off cap sz' V hr hc hH hk hV =>
     have:sz'=sz:=by rw [←hr row (am4 hrow),hlen]
     subst this
     have hcond:(0:Int)≤n∧n < (rows.length:Int):=⟨h0,by omega⟩
     refine⟨.pointer (some (Addr.add ⟨b,off,none⟩ (n.toNat * sz'))),?_,.p _ _ ?_⟩
     ·simp [Instr.indexAt,asIntOf,run_underlying ht,hcond,oW hn,Sem.run_pure]
     ·rw [hadd]
      refine .pptr _ b _ (fun j=>V (n.toNat * sz'+j)) ?_ ?_ ?_
      ·intro j v hj; rw [←hH _ j row v hrow hj]; congr 1; omega
      ·intro j v hj; exact hk _ j row v hrow hj
      ·intro j v hj; exact hV _ j row v hrow hj
   ·cases hb
  ·cases hb
 ·rename_i id off len sz' k n
  have:=hy.rB; subst this
  split at hb <;> simp only [ab3,reduceCtorEq] at hb
  rename_i hc
  obtain⟨h0,hlt,rfl⟩:=hc
  subst hb
  obtain⟨a,cap,rfl,hlc,ha⟩:=hx.Az
  obtain⟨rfl,hlv⟩:=ha (by omega)
  refine⟨.pointer (some (Addr.add ⟨G.oP id,off,none⟩ (n.toNat * sz'))),?_,?_⟩
  ·simp [Instr.indexAt,asIntOf,run_underlying ht,h0,hlt,oW hn,Sem.run_pure]
  ·rw [hadd]; exact .ptr _ _ hlv
 ·rename_i id tot off len sz' k n
  have:=hy.rB; subst this
  split at hb <;> simp only [ab3,reduceCtorEq] at hb
  rename_i hc
  obtain⟨h0,hlt,rfl⟩:=hc
  subst hb
  obtain⟨b,cap,rfl,hnf,htot,hlc,hv⟩:=hx.tG
  refine⟨.pointer (some (Addr.add ⟨b,off,none⟩ (n.toNat * sz'))),?_,?_⟩
  ·simp [Instr.indexAt,asIntOf,run_underlying ht,h0,hlt,oW hn,Sem.run_pure]
  ·rw [hadd]
   refine .vptr _ _ _ b hnf htot fun e=>?_
   obtain⟨l0,cap0,h1,_⟩:=hv e
   exact⟨cap0,h1⟩
 ·cases hb
theorem KF {t e:TypeId}{len sz:Nat}(ht:P.underlying t=some (.array len e)) (hn:o0 P e=some sz) (hb:BQ len sz x y=some v) (hx:lP G h x X) (hy:lP G h y Y) :
  ∃V,(Instr.indexAt t X Y).run P w=.ok V w∧lP G h v V:=by
 have hadd:∀b off k,Addr.add ⟨b,off,none⟩ k=⟨b,off+k,none⟩:=by
  intro b off k; unfold Addr.add; split <;> simp_all
 unfold BQ at hb
 split at hb
 ·rename_i id off k n
  have:=hy.rB; subst this
  split at hb <;> simp only [ab3,reduceCtorEq] at hb
  rename_i hc
  subst hb
  obtain⟨rfl,hl⟩:=hx.x6
  refine⟨.pointer (some (Addr.add ⟨G.oP id,off,none⟩ (n.toNat * sz))),?_,?_⟩
  ·simp [Instr.indexAt,asIntOf,run_underlying ht,Instr.sureAddr,hc,oW hn,Sem.run_pure]
  ·rw [hadd]; exact .ptr _ _ hl
 ·rename_i cs k n
  have:=hy.rB; subst this
  split at hb <;> simp only [ab3,reduceCtorEq] at hb
  rename_i hc
  subst hb
  have hp:=hx.EI
  cases hp with
  | pptr cs b off V hH hk hV =>
   refine⟨.pointer (some (Addr.add ⟨b,off,none⟩ (n.toNat * sz))),?_,.p _ _ ?_⟩
   ·simp [Instr.indexAt,asIntOf,run_underlying ht,Instr.sureAddr,hc,oW hn,Sem.run_pure]
   ·rw [hadd]
    refine .pptr _ b _ (fun j=>V (n.toNat * sz+j)) ?_ ?_ ?_
    ·intro j v hj; rw [ag5] at hj; rw [←hH _ v hj]; congr 1; omega
    ·intro j v hj; rw [ag5] at hj; exact hk _ v hj
    ·intro j v hj; rw [ag5] at hj; exact hV _ v hj
 ·cases hb
end
end
section
open Go Go.RowKit
theorem Fy:∀{k1 k2:List Kd}{x y:List kP}{b:Bool},rX (k1++k2) x y=some b →
  ∃p q,rX k1 (x.take k1.length) (y.take k1.length)=some p∧rX k2 (x.drop k1.length) (y.drop k1.length)=some q∧b=(p && q)
 | [],k2,x,y,b,h=>⟨true,b,by simp [rX],by simpa using h,by simp⟩
 | k::k1,k2,[],y,b,h=>by simp [rX] at h
 | k::k1,k2,_::_,[],b,h=>by simp [rX] at h
 | k::k1,k2,x::xs,y::ys,b,h=>by
  simp only [List.cons_append,rX] at h
  split at h <;> simp only [ab3,reduceCtorEq] at h
  rename_i u v hu hv
  obtain⟨p,q,h1,h2,h3⟩:=Fy hv
  exact⟨u && p,q,by simp [rX,hu,h1],by simpa using h2,by rw [←h,h3,Bool.and_assoc]⟩
theorem Kz:∀{ks:List Kd}{x y:List kP}{b:Bool},rX ks x y=some b→x.length=ks.length∧y.length=ks.length
 | [],[],[],_,_=>⟨rfl,rfl⟩
 | [],_::_,_,_,h=>by simp [rX] at h
 | [],[],_::_,_,h=>by simp [rX] at h
 | _::_,[],_,_,h=>by simp [rX] at h
 | _::_,_::_,[],_,h=>by simp [rX] at h
 | k::ks,x::xs,y::ys,b,h=>by
  simp only [rX] at h
  split at h <;> simp only [ab3,reduceCtorEq] at h
  rename_i u v hu hv
  obtain⟨h1,h2⟩:=Kz hv
  simp [h1,h2]
def Rep (G:Gh) (h:kT) (g:Bool) (cx:List kP) (X:Value):Prop :=
 match g with
 | true=>∃C:Array Value,X=.agg C∧cx.length=C.size∧∀(i:Nat) (v:kP),cx[i]?=some v→lP G h v (C.getD i undef)
 | false=>∃c,cx=[c]∧lP G h c X
section
variable {P:Program}{G:Gh}{h:kT}{w:World}{x y v:kP}{X Y:Value}
theorem So {t:TypeId}{g:Bool}{n off:Nat}{cx:List kP}{C:Array Value}(hg:tZ P t=some g) (hn:o0 P t=some n) (h1:g=false→n=1)
  (hl:cx.length=C.size) (hr:∀(i:Nat) (v:kP),cx[i]?=some v→lP G h v (C.getD i undef)) (hle:off+n≤cx.length) :
  ∃V,(part t C off).run P w=.ok V w∧Rep G h g ((cx.drop off).take n) V:=by
 cases g with
 | true =>
  obtain⟨V,e1,e2⟩:=Cl (P:=P) (w:=w) (off:=off) (v:=.agg ((cx.drop off).take n)) hg hn (by simp [apart,hle]) hl hr
  exact⟨V,e1,e2.zV⟩
 | false =>
  have:=h1 rfl; subst this
  have hlt:off < cx.length:=by omega
  obtain⟨V,e1,e2⟩:=Cl (P:=P) (w:=w) (off:=off) (v:=cx[off]) hg hn (by simp [apart,hlt]) hl hr
  exact⟨V,e1,cx[off],by rw [List.drop_eq_getElem_cons hlt,List.take_succ_cons,List.take_zero],e2⟩
theorem Em (P:Program) (G:Gh) (h:kT) (w:World) (d D:Nat)
  (ih:∀(t:TypeId) (ks:List Kd) (g:Bool) (cx cy:List kP) (X Y:Value) (b:Bool),z6 P d t=some ks→tZ P t=some g→rX ks cx cy=some b →
   Rep G h g cx X→Rep G h g cy Y→(Op.equalIn D t X Y).run P w=.ok b w)
  {cx cy:List kP}{C E:Array Value}(hlx:cx.length=C.size) (hrx:∀(i:Nat) (v:kP),cx[i]?=some v→lP G h v (C.getD i undef))
  (hly:cy.length=E.size) (hry:∀(i:Nat) (v:kP),cy[i]?=some v→lP G h v (E.getD i undef)) :
  ∀(fs:List Field) (off:Nat) (ks:List Kd) (b:Bool),C7 P (z6 P d) fs off=some ks→rX ks (cx.drop off) (cy.drop off)=some b →
   (Op.eqFields D C E fs).run P w=.ok b w
 | [],off,ks,b,hk,hb=>by
  simp only [C7,ab3] at hk; subst hk
  have:b=true:=by
   generalize cx.drop off=a at hb; generalize cy.drop off=c at hb
   cases a <;> cases c <;> simp_all [rX]
  subst this
  simp [Op.eqFields,Sem.run_pure]
 | f::fs,off,ks,b,hk,hb=>by
  simp only [C7] at hk
  cases hnm:(f.name == "_" || f.offset != off) with
  | true=>simp [hnm] at hk
  | false =>
   simp only [hnm,cond_false] at hk
   simp only [Bool.or_eq_false_iff,beq_eq_false_iff_ne,bne_eq_false_iff_eq] at hnm
   obtain⟨hname,hoff⟩:=hnm
   split at hk
   ·rename_i k1 hk1
    cases hsz:(o0 P f.type == some k1.length && k1.length != 0) with
    | false=>simp [hsz] at hk
    | true =>
     simp only [hsz,cond_true] at hk
     simp only [Bool.and_eq_true,beq_iff_eq,bne_iff_ne,ne_eq] at hsz
     obtain⟨hsz,hne⟩:=hsz
     split at hk <;> simp only [ab3,reduceCtorEq] at hk
     rename_i k2 hk2
     subst hk
     obtain⟨p,q,e1,e2,rfl⟩:=Fy hb
     obtain⟨l1,l2⟩:=Kz e1
     obtain⟨g,hg⟩:∃g,tZ P f.type=some g:=by
      unfold tZ
      cases d with
      | zero=>simp [z6] at hk1
      | succ d =>
       simp only [z6] at hk1
       cases hu:P.underlying f.type with
       | none=>simp [hu] at hk1
       | some dd=>cases dd <;> simp
     have h1:g=false→k1.length=1:=by
      intro hgf; subst hgf
      cases d with
      | zero=>simp [z6] at hk1
      | succ d =>
       simp only [z6] at hk1
       unfold tZ at hg
       cases hu:P.underlying f.type with
       | none=>simp [hu] at hk1
       | some dd=>cases dd <;> simp_all <;> subst hk1 <;> rfl
     have lx:off+k1.length≤cx.length:=by rw [aj9,List.length_drop] at l1; omega
     have ly:off+k1.length≤cy.length:=by rw [aj9,List.length_drop] at l2; omega
     obtain⟨V1,p1,r1⟩:=So (w:=w) (off:=off) hg hsz h1 hlx hrx lx
     obtain⟨V2,p2,r2⟩:=So (w:=w) (off:=off) hg hsz h1 hly hry ly
     have he:=ih f.type k1 g _ _ V1 V2 p hk1 hg e1 r1 r2
     have hrest:=Em P G h w d D ih hlx hrx hly hry fs (off+k1.length) k2 q hk2 (by simpa [List.drop_drop] using e2)
     simp only [Op.eqFields,hoff,ne_eq,hname,not_false_eq_true,if_true,Sem.run_bind,p1,p2,he,Result.andThen_ok,Sem.run_ite]
     cases p <;> simp [Sem.run_pure,hrest]
   ·cases hk
theorem FD (P:Program) (G:Gh) (h:kT) (w:World):∀(d D:Nat),d≤D→∀(t:TypeId) (ks:List Kd) (g:Bool) (cx cy:List kP) (X Y:Value) (b:Bool),
  z6 P d t=some ks→tZ P t=some g→rX ks cx cy=some b→Rep G h g cx X→Rep G h g cy Y→(Op.equalIn D t X Y).run P w=.ok b w
 | 0,_,_,_,_,_,_,_,_,_,_,hk,_,_,_,_=>by simp [z6] at hk
 | d+1,0,hd,_,_,_,_,_,_,_,_,_,_,_,_,_=>by omega
 | d+1,D+1,hd,t,ks,g,cx,cy,X,Y,b,hk,hg,hb,hx,hy=>by
  simp only [z6] at hk
  have scal:g=false→∀k,ks=[k]→∃c c',cx=[c]∧cy=[c']∧lP G h c X∧lP G h c' Y∧Gx k c c'=some b:=by
   intro hgf k hks; subst hgf; subst hks
   obtain⟨c,rfl,hc⟩:=hx
   obtain⟨c',rfl,hc'⟩:=hy
   refine⟨c,c',rfl,rfl,hc,hc',?_⟩
   simp only [rX] at hb
   split at hb <;> simp_all
  split at hk
  ·rename_i hu
   have hgf:g=false:=by simpa [tZ,hu] using hg.symm
   obtain⟨c,c',rfl,rfl,hc,hc',he⟩:=scal hgf .b (by simpa using hk.symm)
   unfold Gx at he
   split at he <;> simp_all
   have:=hc.zY; subst this
   have:=hc'.zY; subst this
   rw [run_equalIn_bool hu D]; simp_all
  ·rename_i k0 hu
   have hgf:g=false:=by simpa [tZ,hu] using hg.symm
   obtain⟨c,c',rfl,rfl,hc,hc',he⟩:=scal hgf .i (by simpa using hk.symm)
   unfold Gx at he
   split at he
   ·rename_i k a k' a'
    split at he <;> simp only [ab3,reduceCtorEq] at he
    rename_i hkk; subst hkk; subst he
    have:=hc.rB; subst this
    have:=hc'.rB; subst this
    exact run_equalIn_int w D t _ _ _ _ hu
   ·simp_all
   ·simp_all
   ·cases he
  ·rename_i hu
   have hgf:g=false:=by simpa [tZ,hu] using hg.symm
   obtain⟨c,c',rfl,rfl,hc,hc',he⟩:=scal hgf .s (by simpa using hk.symm)
   cases c <;> cases c' <;> simp only [Gx,ab3,reduceCtorEq] at he
   rename_i a a'
   subst he
   have:=hc.Ao; subst this
   have:=hc'.Ao; subst this
   have:=run_equalIn_string (P:=P) w D t ⟨a.toArray⟩ ⟨a'.toArray⟩ hu
   simpa using this
  ·rename_i fs hu
   have hgt:g=true:=by simpa [tZ,hu] using hg.symm
   subst hgt
   cases hst:P.stoodInHeld t with
   | true=>simp [hst] at hk
   | false =>
    simp only [hst,cond_false] at hk
    obtain⟨C,rfl,hlx,hrx⟩:=hx
    obtain⟨E,rfl,hly,hry⟩:=hy
    have hfo:P.fieldsOf t=fs:=by simp [Program.fieldsOf,hu]
    rw [run_equalIn_struct w D t C E (by rw [hfo]; exact hu) hst,hfo]
    exact Em P G h w d D (fun t ks g cx cy X Y b=>FD P G h w d D (by omega) t ks g cx cy X Y b) hlx hrx hly hry fs.toList 0 ks b hk (by simpa using hb)
  ·cases hk
theorem Jb {t:TypeId}{ks:List Kd}{b:Bool}{fs:Array Field}(ht:P.underlying t=some (.struct fs)) (hk:GJ P t=some ks) (xo yo:Operand)
  (hb:tX ks x y=some b) (hx:lP G h x X) (hy:lP G h y Y) :
  (do eqGuard .eql t xo yo X Y; binOp .eql t X Y:Sem Value).run P w=.ok (.bool b) w∧(do eqGuard .neq t xo yo X Y; binOp .neq t X Y:Sem Value).run P w=.ok (.bool (!b)) w:=by
 unfold GJ at hk
 split at hk
 ·rename_i ks' hks
  cases hm:P.eqGuardType P.depth t with
  | true=>simp [hm] at hk
  | false =>
   simp only [hm,cond_false,ab3] at hk; subst hk
   unfold tX at hb
   split at hb
   ·obtain⟨C,rfl,hlx,hrx⟩:=hx.zV
    obtain⟨E,rfl,hly,hry⟩:=hy.zV
    have he:=FD P G h w 12 10000 (by omega) t ks' true _ _ (.agg C) (.agg E) b hks (by simp [tZ,ht]) hb ⟨C,rfl,hlx,hrx⟩ ⟨E,rfl,hly,hry⟩
    constructor
    ·simp only [Sem.run_bind,run_eqGuard_agg w .eql t xo yo C E hm,Result.andThen_ok,run_eql_struct,he]
    ·simp only [Sem.run_bind,run_eqGuard_agg w .neq t xo yo C E hm,Result.andThen_ok,run_neq_struct,he]
   ·cases hb
 ·cases hk
end
end
section
open Go Go.RowKit
def nJ (G:Gh) (id:Nat):lR→Option Nat
 | .cells _ | .map _ | .tcells _ _=>some (G.oP id)
 | .front _ _ _ | .vec _ _ _=>(G.cur id).ownBlock
 | _=>none
theorem pX {G:Gh}{h:kT}{id:Nat}{bl:lR}(hb:h[id]?=some bl):owner G h id=nJ G id bl:=by
 unfold owner; rw [hb]; cases bl <;> rfl
theorem AD {G:Gh}{h:kT}{id b:Nat}(ho:owner G h id=some b):∃bl,h[id]?=some bl∧nJ G id bl=some b:=by
 cases hb:h[id]? with
 | none=>simp [owner,hb] at ho
 | some bl=>exact⟨bl,rfl,by rw [←pX hb]; exact ho⟩
theorem Eb.lt {G:Gh}{h:kT}{w:World}{id b:Nat}{bl:lR}(hk:Eb G h w id bl) (ho:nJ G id bl=some b):b < w.heap.size:=by
 have aux:∀{o:Obj},w.heap[b]?=some o→b < w.heap.size:=fun h=>(Array.getElem?_eq_some_iff.1 h).1
 cases bl with
 | free=>cases ho
 | gone=>cases ho
 | cells cs=>obtain⟨C,e,h1,_⟩:=hk; cases ho; exact aux h1
 | tcells t cs=>obtain⟨C,h1,_⟩:=hk; cases ho; exact aux h1
 | map es=>obtain⟨E,c,h1,_⟩:=hk; cases ho; exact aux h1
 | front n sz t =>
  rcases hk with ⟨_,h1⟩ | ⟨b',cap,C,e,h1,h2,_⟩
  ·simp [nJ,h1,Value.ownBlock] at ho
  ·simp [nJ,h1,Value.ownBlock] at ho; subst ho; exact aux h2
 | vec tot sz cs =>
  obtain⟨b',cap,C,e,h1,h2,_⟩:=hk
  simp [nJ,h1,Value.ownBlock] at ho; subst ho; exact aux h2
theorem Inv.lt {G:Gh}{h:kT}{w:World}(i:Inv G h w) {id b:Nat}(ho:owner G h id=some b):b < w.heap.size:=by
 obtain⟨bl,hb,hob⟩:=AD ho
 exact(i.oP id bl hb).lt hob
theorem Eb.Xx {G G':Gh}{h h':kT}{w w':World}{id:Nat}{bl:lR}(m:Ed G h G' h') (hblk:G'.oP id=G.oP id) (hcur:G'.cur id=G.cur id)
  (hh:∀b,nJ G id bl=some b→w'.heap[b]?=w.heap[b]?∧∀k,G'.H b k=G.H b k) (hk:Eb G h w id bl):Eb G' h' w' id bl:=by
 cases bl with
 | free=>trivial
 | gone=>trivial
 | cells cs =>
  obtain⟨C,e,h1,h2,h3,h4⟩:=hk
  obtain⟨e1,e2⟩:=hh _ rfl
  exact⟨C,e,by rw [hblk,e1,h1],h2,fun k=>by rw [hblk,e2,h3],fun i v hv=>⟨(h4 i v hv).1,(h4 i v hv).2.mono m⟩⟩
 | tcells t cs =>
  obtain⟨C,h1,h2,h3,h4⟩:=hk
  obtain⟨e1,e2⟩:=hh _ rfl
  exact⟨C,by rw [hblk,e1,h1],h2,fun k=>by rw [hblk,e2,h3],fun i v hv=>⟨(h4 i v hv).1,(h4 i v hv).2.mono m⟩⟩
 | map es =>
  obtain⟨E,c,h1,h2,h3,h4,h5⟩:=hk
  obtain⟨e1,e2⟩:=hh _ rfl
  refine⟨E,c,by rw [hblk,e1,h1],h2,fun k=>by rw [hblk,e2,h3],fun i kv hv=>?_,h5⟩
  obtain⟨mm,a1,a2,a3,a4⟩:=h4 i kv hv
  exact⟨mm,a1,a2,a3.mono m.hmono,a4.mono m⟩
 | front n sz t =>
  rcases hk with ⟨h0,h1⟩ | ⟨b,cap,C,e,h1,h2,h3,h4,h5,h50,h6,h7⟩
  ·exact .inl ⟨h0,by rw [hcur,h1]⟩
  ·obtain⟨e1,e2⟩:=hh b (by simp [nJ,h1,Value.ownBlock])
   exact .inr ⟨b,cap,C,e,by rw [hcur,h1],by rw [e1,h2],h3,h4,h5,h50,fun k hk=>by rw [e2,h6 k hk],h7⟩
 | vec tot sz cs =>
  obtain⟨b,cap,C,e,h1,h2,h3,h4,h5,h6,h7,h8,h9⟩:=hk
  obtain⟨e1,e2⟩:=hh b (by simp [nJ,h1,Value.ownBlock])
  exact⟨b,cap,C,e,by rw [hcur,h1],by rw [e1,h2],h3,h4,h5,h6,h7,fun k=>by rw [e2,h8 k],fun i v hv=>⟨(h9 i v hv).1,(h9 i v hv).2.mono m⟩⟩
theorem Inv.push {G G':Gh}{h:kT}{ext:List lR}{w w':World}(i:Inv G h w)
  (os:w'.os=w.os) (tape:w'.tape=w.tape) (output:w'.output=w.output) (size:w.heap.size≤w'.heap.size)
  (heap:∀k,k < w.heap.size→w'.heap[k]?=w.heap[k]?)
  (gblk:∀id,id < h.length→G'.oP id=G.oP id) (gcur:∀id,id < h.length→G'.cur id=G.cur id)
  (hH:∀b k v,G.H b k=some v→G'.H b k=some v) (hHold:∀b k,b < w.heap.size→G'.H b k=G.H b k)
  (hok:∀b k v,w.heap.size≤b→G'.H b k=some v→w'.cell? ⟨b,k,none⟩=some v)
  (hnew:∀j bl,ext[j]?=some bl→Ed G h G' (h++ext)→Eb G' (h++ext) w' (h.length+j) bl)
  (hown:∀j bl b,ext[j]?=some bl→nJ G' (h.length+j) bl=some b→w.heap.size≤b)
  (hinj:∀j j' bl bl' b,ext[j]?=some bl→ext[j']?=some bl'→nJ G' (h.length+j) bl=some b→nJ G' (h.length+j') bl'=some b→j=j') :
  Inv G' (h++ext) w'∧Ext G h w G' (h++ext) w':=by
 have m:Ed G h G' (h++ext):=⟨hH,fun id bl hb=>by
  have hlt:id < h.length:=(ab2.1 hb).1
  refine⟨bl,by rw [af2 hlt]; exact hb,?_⟩
  have e1:=gblk id hlt
  have e2:=gcur id hlt
  cases bl <;> simp [Kind,e1,e2]⟩
 have hget:∀id bl,(h++ext)[id]?=some bl→(id < h.length∧h[id]?=some bl)∨(h.length≤id∧ext[id - h.length]?=some bl):=by
  intro id bl hb
  by_cases hlt:id < h.length
  ·rw [af2 hlt] at hb; exact .inl ⟨hlt,hb⟩
  ·rw [ae9 (by omega)] at hb; exact .inr ⟨by omega,hb⟩
 have own:∀id b,owner G' (h++ext) id=some b→(id < h.length∧owner G h id=some b)∨(h.length≤id∧w.heap.size≤b∧∃bl,ext[id - h.length]?=some bl∧nJ G' id bl=some b):=by
  intro id b ho
  obtain⟨bl,hb,hob⟩:=AD ho
  rcases hget id bl hb with ⟨hlt,h1⟩ | ⟨hge,h1⟩
  ·refine .inl ⟨hlt,?_⟩
   rw [pX h1]
   cases bl <;> simp_all [nJ]
  ·have he:h.length+(id - h.length)=id:=by omega
   exact .inr ⟨hge,hown _ bl b h1 (by rw [he]; exact hob),bl,h1,hob⟩
 refine⟨⟨?_,?_,?_⟩,⟨os,tape,output,size,fun b hb _=>⟨heap b hb,fun k=>hHold b k hb⟩,hH,?_,m.kinds⟩⟩
 ·intro b k v hv
  by_cases hb:b < w.heap.size
  ·rw [hHold b k hb] at hv
   rw [World.cell?_of_block (w:=w) (heap b hb)]
   exact i.ok b k v hv
  ·exact hok b k v (by omega) hv
 ·intro id bl hb
  rcases hget id bl hb with ⟨hlt,h1⟩ | ⟨hge,h1⟩
  ·refine(i.oP id bl h1).Xx m (gblk id hlt) (gcur id hlt) fun b ho=>?_
   have hb:=(i.oP id bl h1).lt ho
   exact⟨heap b hb,fun k=>hHold b k hb⟩
  ·have:=hnew (id - h.length) bl h1 m
   rwa [show h.length+(id - h.length)=id by omega] at this
 ·intro x y b hx hy
  rcases own x b hx with ⟨_,h1⟩ | ⟨hx1,Nq,bl,hx3,hx4⟩ <;> rcases own y b hy with ⟨_,h2⟩ | ⟨hy1,hy2,bl',hy3,hy4⟩
  ·exact i.inj x y b h1 h2
  ·have:=i.lt h1; omega
  ·have:=i.lt h2; omega
  ·have:=hinj (x - h.length) (y - h.length) bl bl' b hx3 hy3 (by rw [show h.length+(x - h.length)=x by omega]; exact hx4) (by rw [show h.length+(y - h.length)=y by omega]; exact hy4)
   omega
 ·intro id b ho hb
  rcases own id b ho with ⟨_,h1⟩ | ⟨_,h2,_⟩
  ·exact h1
  ·omega
theorem Inv.step {G G':Gh}{h:kT}{w w':World}(i:Inv G h w) (id:Nat) (old new:lR) (hold:h[id]?=some old)
  (os:w'.os=w.os) (tape:w'.tape=w.tape) (output:w'.output=w.output) (size:w.heap.size≤w'.heap.size)
  (heap:∀k,k < w.heap.size→nJ G id old≠some k→w'.heap[k]?=w.heap[k]?)
  (gblk:∀j,j≠id→G'.oP j=G.oP j) (gcur:∀j,j≠id→G'.cur j=G.cur j)
  (hH:∀b k v,G.H b k=some v→G'.H b k=some v) (hHold:∀b k,b < w.heap.size→nJ G id old≠some b→G'.H b k=G.H b k)
  (hok:∀b k v,(w.heap.size≤b∨nJ G id old=some b)→G'.H b k=some v→w'.cell? ⟨b,k,none⟩=some v)
  (hkind:Kind G G' id old new)
  (hnew:Ed G h G' (h.set id new)→Eb G' (h.set id new) w' id new)
  (hown:∀b,nJ G' id new=some b→w.heap.size≤b∨nJ G id old=some b) :
  Inv G' (h.set id new) w'∧Ext G h w G' (h.set id new) w':=by
 have hlt:id < h.length:=(ab2.1 hold).1
 have hsame:(h.set id new)[id]?=some new:=by simp [hlt]
 have hne:∀j,j≠id→(h.set id new)[j]?=h[j]?:=fun j hj=>List.getElem?_set_ne (Ne.symm hj)
 have m:Ed G h G' (h.set id new):=⟨hH,fun j bl hb=>by
  by_cases hj:j=id
  ·subst hj; rw [hold] at hb; cases hb; exact⟨new,hsame,hkind⟩
  ·refine⟨bl,by rw [hne j hj]; exact hb,?_⟩
   have e1:=gblk j hj
   have e2:=gcur j hj
   cases bl <;> simp [Kind,e1,e2]⟩
 have own:∀j b,owner G' (h.set id new) j=some b→(j≠id∧owner G h j=some b)∨(j=id∧(w.heap.size≤b∨owner G h id=some b)):=by
  intro j b ho
  by_cases hj:j=id
  ·subst hj
   rw [pX hsame] at ho
   exact .inr ⟨rfl,by rw [pX hold]; exact hown b ho⟩
  ·refine .inl ⟨hj,?_⟩
   obtain⟨bl,hb,hob⟩:=AD ho
   rw [hne j hj] at hb
   rw [pX hb]
   have e1:=gblk j hj
   have e2:=gcur j hj
   cases bl <;> simp_all [nJ]
 refine⟨⟨?_,?_,?_⟩,⟨os,tape,output,size,fun b hb hn=>?_,hH,?_,m.kinds⟩⟩
 ·intro b k v hv
  by_cases hb:b < w.heap.size∧nJ G id old≠some b
  ·rw [hHold b k hb.1 hb.2] at hv
   rw [World.cell?_of_block (w:=w) (heap b hb.1 hb.2)]
   exact i.ok b k v hv
  ·refine hok b k v ?_ hv
   by_cases h1:w.heap.size≤b
   ·exact .inl h1
   ·exact .inr (Classical.byContradiction fun h2=>hb ⟨by omega,h2⟩)
 ·intro j bl hb
  by_cases hj:j=id
  ·subst hj; rw [hsame] at hb; cases hb; exact hnew m
  ·rw [hne j hj] at hb
   refine(i.oP j bl hb).Xx m (gblk j hj) (gcur j hj) fun b ho=>?_
   have h1:=(i.oP j bl hb).lt ho
   have h2:nJ G id old≠some b:=fun e=>hj (i.inj j id b (by rw [pX hb]; exact ho) (by rw [pX hold]; exact e))
   exact⟨heap b h1 h2,fun k=>hHold b k h1 h2⟩
 ·intro x y b hx hy
  rcases own x b hx with ⟨hx1,h1⟩ | ⟨rfl,h1⟩ <;> rcases own y b hy with ⟨hy1,h2⟩ | ⟨rfl,h2⟩
  ·exact i.inj x y b h1 h2
  ·rcases h2 with h2 | h2
   ·have:=i.lt h1; omega
   ·exact i.inj x y b h1 h2
  ·rcases h1 with h1 | h1
   ·have:=i.lt h2; omega
   ·exact i.inj x y b h1 h2
  ·rfl
 ·have:nJ G id old≠some b:=fun e=>hn id (by rw [pX hold]; exact e)
  exact⟨heap b hb this,fun k=>hHold b k hb this⟩
 ·intro j b ho hb
  rcases own j b ho with ⟨_,h1⟩ | ⟨rfl,h1 | h1⟩
  ·exact h1
  ·omega
  ·exact h1
end
section
open Go Go.RowKit
theorem add_plain (b off k:Nat):Addr.add ⟨b,off,none⟩ k=⟨b,off+k,none⟩:=by unfold Addr.add; split <;> simp_all
theorem vN {h:kT}{id tot:Nat}{x:Nat×List kP}(hg:qK h id tot=some x):h[id]?=some (.vec tot x.1 x.2):=by
 unfold qK at hg
 split at hg
 ·rename_i tot' sz cs hid
  split at hg
  ·rename_i he; cases hg; rw [hid,he]
  ·cases hg
 ·cases hg
theorem Jd {h:kT}{id:Nat}{cs:List kP}(hg:oM h id=some cs):h[id]?=some (.cells cs):=by
 unfold oM at hg
 split at hg <;> simp_all
section
variable {P:Program}{G:Gh}{h:kT}{w:World}{x y v:kP}{X Y V:Value}
theorem cell_of (w:World) (g i:Nat) {C:Array Value}{t:TypeId}{fr:Nat×Nat}(hg:w.heap[g]?=some (.cells C t fr)):w.cell? ⟨g,i,none⟩=C[i]?:=by
 simp [World.cell?,hg]
theorem BF {t:TypeId}{g:Bool}{n:Nat}(hg:tZ P t=some g) (hn:o0 P t=some n) (b o:Nat) (cs:List kP) (off:Nat) (F:Nat→Value)
  (hb:apart g n cs off=some v) (hc:∀(j:Nat) (u:kP),cs[j]?=some u→off≤j→w.cell? ⟨b,o+(j - off),none⟩=some (F j)∧lP G h u (F j)) :
  ∃V,(loadVar t ⟨b,o,none⟩).run P w=.ok V w∧lP G h v V:=by
 unfold apart at hb
 cases g with
 | true =>
  simp only [cond_true] at hb
  split at hb <;> simp only [ab3,reduceCtorEq] at hb
  rename_i hle
  subst hb
  have hl:=run_loadCells (P:=P) w ⟨b,o,none⟩ n (fun j=>F (off+j)) (fun j hj=>by
   have hj':cs[off+j]?=some cs[off+j]:=ac1 (by omega)
   have:=(hc (off+j) _ hj' (by omega)).1
   rw [add_plain]
   rwa [show off+j - off=j by omega] at this)
  refine⟨.agg ((List.range n).map fun j=>F (off+j)).toArray,?_,.agg _ _ ?_ ?_⟩
  ·simp [loadVar,Gf hg,oW hn,hl,Sem.run_pure]
  ·simp; omega
  ·intro i u hu
   rw [af4] at hu
   split at hu
   ·rename_i hi
    rw [ag5] at hu
    have:=(hc (off+i) u hu (by omega)).2
    simpa [ab8,hi] using this
   ·cases hu
 | false =>
  simp only [cond_false] at hb
  obtain⟨h1,h2⟩:=hc off v hb (ac9 _)
  refine⟨F off,?_,h2⟩
  rw [Nat.sub_self,an8] at h1
  simp [loadVar,Gf hg,run_load,h1]
theorem Ck {t:TypeId}{g:Bool}{n:Nat}(hg:tZ P t=some g) (hn:o0 P t=some n) (i:Inv G h w) (hb:kW g n h x=some v) (hx:lP G h x X) :
  ∃V,(Instr.loadAt t X).run P w=.ok V w∧lP G h v V:=by
 unfold kW at hb
 split at hb
 ·rename_i cs
  have hp:=hx.EI
  cases hp with
  | pptr cs b off F hH hk hV =>
   obtain⟨V,h1,h2⟩:=BF (P:=P) (G:=G) (h:=h) (w:=w) hg hn b off cs 0 F hb (fun j u hu _=>⟨i.ok _ _ _ (hH j u hu),.p _ _ (hV j u hu)⟩)
   exact⟨V,by simp [Instr.loadAt,Instr.sureAddr,h1],h2⟩
 ·rename_i id off
  split at hb
  ·rename_i cs hgb
   unfold oM at hgb
   split at hgb <;> simp only [ab3,reduceCtorEq] at hgb
   rename_i cs' hid
   subst hgb
   obtain⟨rfl,_⟩:=hx.x6
   obtain⟨C,e,h1,h2,h3,h4⟩:=i.oP id _ hid
   obtain⟨V,r1,r2⟩:=BF (P:=P) (G:=G) (h:=h) (w:=w) hg hn (G.oP id) off cs' off (fun j=>C.getD j undef) hb (fun j u hu hj=>by
    have hlt:j < C.size:=by rw [h2]; exact(ab2.1 hu).1
    refine⟨?_,(h4 j u hu).2⟩
    rw [cell_of w _ _ h1,show off+(j - off)=j by omega,Array.getElem?_eq_getElem hlt]
    simp [ab8,hlt])
   exact⟨V,by simp [Instr.loadAt,Instr.sureAddr,r1],r2⟩
  ·cases hb
 ·rename_i id tot off
  split at hb
  ·rename_i x hgb
   have hid:=vN hgb
   obtain⟨tot,hX,h1,h2,h3⟩:=hx.EX
   obtain⟨b,cap,C,e,g1,g2,g3,g4,g5,g6,g7,g8,g9⟩:=i.oP id _ hid
   obtain⟨cap0,h4⟩:=h3 (by rw [g1]; rfl)
   rw [g1] at h4
   simp only [Value.slice.injEq,ab3,Addr.mk.injEq] at h4
   obtain⟨⟨rfl,_⟩,_,rfl⟩:=h4
   subst hX
   obtain⟨V,r1,r2⟩:=BF (P:=P) (G:=G) (h:=h) (w:=w) hg hn b off x.2 off (fun j=>C.getD j undef) hb (fun j u hu hj=>by
    have hlt:j < C.size:=by
     have:=(ab2.1 hu).1
     rw [g5]
     exact Nat.lt_of_lt_of_le (by rw [g7] at this; exact this) (ag8 _ g3)
    refine⟨?_,(g9 j u hu).2⟩
    rw [cell_of w _ _ g2,show off+(j - off)=j by omega,Array.getElem?_eq_getElem hlt]
    simp [ab8,hlt])
   exact⟨V,by simp [Instr.loadAt,Instr.sureAddr,r1],r2⟩
  ·cases hb
 ·cases hb
theorem t_ (cs vs:List kP) (off:Nat) (h:off+vs.length≤cs.length):(putCells cs off vs).length=cs.length:=by
 simp [putCells]; omega
theorem xV (cs vs:List kP) (off i:Nat) (h:off+vs.length≤cs.length) :
  (putCells cs off vs)[i]?=if i < off then cs[i]? else if i < off+vs.length then vs[i - off]? else cs[i]?:=by
 unfold putCells
 by_cases h1:i < off
 ·rw [if_pos h1,al2,af2 (by simp; omega),af4,if_pos h1]
 ·rw [if_neg h1,al2,ae9 (by simp; omega)]
  simp only [aj9]
  rw [Nat.min_eq_left (by omega)]
  by_cases h2:i < off+vs.length
  ·rw [if_pos h2,af2 (by omega)]
  ·rw [if_neg h2,ae9 (by omega),ag5]
   congr 1; omega
theorem vG (C:Array Value) (U:List Value) (off i:Nat) (h:off+U.length≤C.size) :
  (C.toList.take off++U++C.toList.drop (off+U.length)).toArray[i]?=if i < off then C[i]? else if i < off+U.length then U[i - off]? else C[i]?:=by
 rw [List.getElem?_toArray]
 by_cases h1:i < off
 ·rw [if_pos h1,al2,af2 (by simp; omega),af4,if_pos h1,ad5]
 ·rw [if_neg h1,al2,ae9 (by simp; omega)]
  simp only [aj9,an6]
  rw [Nat.min_eq_left (by omega)]
  by_cases h2:i < off+U.length
  ·rw [if_pos h2,af2 (by omega)]
  ·rw [if_neg h2,ae9 (by omega),ag5,ad5]
   congr 1; omega
theorem Inv.write (i:Inv G h w) {id off:Nat}{cs vs:List kP}{C:Array Value}{e:TypeId}{U:List Value}(hid:h[id]?=some (.cells cs))
  (hC:w.heap[G.oP id]?=some (.cells C e (0,0))) (hle:off+vs.length≤cs.length) (hU:U.length=vs.length)
  (hrel:∀(j:Nat) (u:kP),vs[j]?=some u→u.mH=true∧lP G h u (U.getD j undef)) :
  Inv G (h.set id (.cells (putCells cs off vs))) (w.setRow (G.oP id) (C.toList.take off++U++C.toList.drop (off+U.length)).toArray) ∧
   Ext G h w G (h.set id (.cells (putCells cs off vs))) (w.setRow (G.oP id) (C.toList.take off++U++C.toList.drop (off+U.length)).toArray):=by
 obtain⟨C',e',h1,h2,h3,h4⟩:=i.oP id _ hid
 rw [hC] at h1
 simp only [ab3,Obj.cells.injEq] at h1
 obtain⟨rfl,rfl,_⟩:=h1
 refine i.step id (.cells cs) _ hid (by simp) (by simp) (by simp) (by simp) ?_ (fun _ _=>rfl) (fun _ _=>rfl) (fun _ _ _ hh=>hh) (fun _ _ _ _=>rfl) ?_ ?_ ?_ ?_
 ·intro k _ hk
  exact setRow_other w _ k _ (fun e=>hk (by simp [nJ,e]))
 ·intro b k v hb hv
  rcases hb with hb | hb
  ·have:=i.ok b k v hv
   have hlt:b < w.heap.size:=by
    unfold World.cell? at this
    cases hh:w.heap[b]? with
    | none=>simp [hh] at this
    | some o=>exact(Array.getElem?_eq_some_iff.1 hh).1
   omega
  ·simp only [nJ,ab3] at hb
   subst hb
   rw [h3] at hv; cases hv
 ·exact⟨(t_ cs vs off hle).symm,rfl,rfl⟩
 ·intro m
  have hoff:off+U.length≤C.size:=by rw [hU,h2]; exact hle
  refine⟨_,e,setRow_heap w _ C _ e _ hC,?_,h3,fun j u hu=>?_⟩
  ·rw [t_ cs vs off hle]; simp; omega
  ·rw [xV cs vs off j hle] at hu
   rw [ab8,vG C U off j hoff]
   split at hu
   ·rename_i hj
    rw [if_pos hj]
    exact⟨(h4 j u hu).1,by have:=(h4 j u hu).2.mono m; rwa [ab8] at this⟩
   ·rename_i hj
    rw [if_neg hj]
    split at hu
    ·rename_i hj2
     rw [if_pos (by rw [hU]; exact hj2)]
     obtain⟨a1,a2⟩:=hrel _ u hu
     refine⟨a1,?_⟩
     have:=a2.mono m
     rwa [af0] at this
    ·rename_i hj2
     rw [if_neg (by rw [hU]; exact hj2)]
     exact⟨(h4 j u hu).1,by have:=(h4 j u hu).2.mono m; rwa [ab8] at this⟩
 ·intro b hb
  exact .inr hb
theorem Inv.MP (i:Inv G h w) {id tot sz off b cap:Nat}{cs vs:List kP}{C:Array Value}{e:TypeId}{U:List Value}(hid:h[id]?=some (.vec tot sz cs))
  (hcur:G.cur id=.slice (some ⟨b,0,none⟩) tot cap) (hC:w.heap[b]?=some (.cells C e (0,0))) (hle:off+vs.length≤cs.length) (hU:U.length=vs.length)
  (hrel:∀(j:Nat) (u:kP),vs[j]?=some u→u.mH=true∧lP G h u (U.getD j undef)) :
  Inv G (h.set id (.vec tot sz (putCells cs off vs))) (w.setRow b (C.toList.take off++U++C.toList.drop (off+U.length)).toArray) ∧
   Ext G h w G (h.set id (.vec tot sz (putCells cs off vs))) (w.setRow b (C.toList.take off++U++C.toList.drop (off+U.length)).toArray):=by
 obtain⟨b',cap',C',e',g1,g2,g3,g4,g5,g6,g7,g8,g9⟩:=i.oP id _ hid
 rw [hcur] at g1
 simp only [Value.slice.injEq,ab3,Addr.mk.injEq] at g1
 obtain⟨⟨rfl,_⟩,_,rfl⟩:=g1
 rw [hC] at g2
 simp only [ab3,Obj.cells.injEq] at g2
 obtain⟨rfl,rfl,_⟩:=g2
 have hown:nJ G id (.vec tot sz cs)=some b:=by simp [nJ,hcur,Value.ownBlock]
 have hcl:cs.length≤C.size:=by rw [g7,g5]; exact ag8 _ g3
 refine i.step id (.vec tot sz cs) _ hid (by simp) (by simp) (by simp) (by simp) ?_ (fun _ _=>rfl) (fun _ _=>rfl) (fun _ _ _ hh=>hh) (fun _ _ _ _=>rfl) ?_ ?_ ?_ ?_
 ·intro k _ hk
  exact setRow_other w _ k _ (fun e=>hk (by rw [hown,e]))
 ·intro b' k v hb hv
  rcases hb with hb | hb
  ·have:=i.ok b' k v hv
   have hlt:b' < w.heap.size:=by
    unfold World.cell? at this
    cases hh:w.heap[b']? with
    | none=>simp [hh] at this
    | some o=>exact(Array.getElem?_eq_some_iff.1 hh).1
   omega
  ·rw [hown] at hb
   cases hb
   rw [g8] at hv; cases hv
 ·exact⟨rfl,ac9 _,fun _=>rfl⟩
 ·intro m
  have hoff:off+U.length≤C.size:=by omega
  refine⟨b,cap,_,e,hcur,setRow_heap w _ C _ e _ hC,g3,g4,by simp; omega,g6,by rw [t_ cs vs off hle]; exact g7,g8,fun j u hu=>?_⟩
  rw [xV cs vs off j hle] at hu
  rw [ab8,vG C U off j hoff]
  split at hu
  ·rename_i hj
   rw [if_pos hj]
   exact⟨(g9 j u hu).1,by have:=(g9 j u hu).2.mono m; rwa [ab8] at this⟩
  ·rename_i hj
   rw [if_neg hj]
   split at hu
   ·rename_i hj2
    rw [if_pos (by rw [hU]; exact hj2)]
    obtain⟨a1,a2⟩:=hrel _ u hu
    refine⟨a1,?_⟩
    have:=a2.mono m
    rwa [af0] at this
   ·rename_i hj2
    rw [if_neg (by rw [hU]; exact hj2)]
    exact⟨(g9 j u hu).1,by have:=(g9 j u hu).2.mono m; rwa [ab8] at this⟩
 ·intro b' hb
  exact .inr (by rw [hown]; simpa [nJ,hcur,Value.ownBlock] using hb)
theorem TW {o v u:kP}(hu:yU h o v=u):u=v∨(v=.slice [] .nil∧∃id,u=.slice [] (.own id)∧h[id]?=some (.front 0 0)):=by
 unfold yU at hu
 cases hn:v.isNil with
 | false=>rw [hn] at hu; exact .inl hu.symm
 | true =>
  rw [hn] at hu
  simp only [cond_true] at hu
  have hv:v=.slice [] .nil:=by
   unfold kP.isNil at hn
   split at hn
   ·rfl
   ·cases hn
  split at hu
  ·rename_i id
   split at hu
   ·rename_i hf; exact .inr ⟨hv,id,hu.symm,hf⟩
   ·exact .inl hu.symm
  ·exact .inl hu.symm
theorem yE:∀{os vs:List kP},(p9 h os vs).length=vs.length
 | [],_=>by simp [p9]
 | _::_,[]=>by simp [p9]
 | _::os,_::vs=>by simp [p9,yE (os:=os) (vs:=vs)]
theorem Es:∀{os vs:List kP}{j:Nat}{u:kP},(p9 h os vs)[j]?=some u→∃v,vs[j]?=some v∧(u=v∨(v=.slice [] .nil∧∃id,u=.slice [] (.own id)∧h[id]?=some (.front 0 0)))
 | [],vs,j,u,hu=>⟨u,by simpa [p9] using hu,.inl rfl⟩
 | _::_,[],j,u,hu=>by simp [p9] at hu
 | o::os,v::vs,0,u,hu=>by
  simp only [p9,List.getElem?_cons_zero,ab3] at hu
  exact⟨v,rfl,TW hu⟩
 | o::os,v::vs,j+1,u,hu=>by
  simp only [p9,List.getElem?_cons_succ] at hu
  obtain⟨v',h1,h2⟩:=Es hu
  exact⟨v',by simpa using h1,h2⟩
theorem R1 (i:Inv G h w) {u v:kP}{V:Value}(hk:u=v∨(v=.slice [] .nil∧∃id,u=.slice [] (.own id)∧h[id]?=some (.front 0 0))) (hc:v.mH=true) (hr:lP G h v V):u.mH=true∧lP G h u V:=by
 rcases hk with rfl | ⟨rfl,id,rfl,hf⟩
 ·exact⟨hc,hr⟩
 ·have hb:=i.oP id _ hf
  have hV:V=.slice none 0 0:=by
   cases hr with
   | p _ _ hp=>cases hp
   | nil=>rfl
  have hcur:G.cur id=.slice none 0 0:=by
   rcases hb with ⟨_,h1⟩ | ⟨b,cap,C,e,h1,h2,h3,h4,h5,h6,_⟩
   ·exact h1
   ·omega
  subst hV
  exact⟨rfl,.own [] id 0 0 _ (.slice0 none 0) hf (ac9 _) (by simp) fun _=>hcur.symm⟩
theorem Bp {t:TypeId}{n:Nat}{h':kT}(hn:o0 P t=some n) (i:Inv G h w) (hb:k_ n h x y=some h') (hx:lP G h x X) (hy:lP G h y Y) :
  ∃w',(Instr.storeAt t X Y).run P w=.ok () w'∧Inv G h' w'∧Ext G h w G h' w':=by
 unfold k_ at hb
 split at hb
 ·rename_i id off
  cases hgb:oM h id with
  | none=>simp [hgb] at hb
  | some cs' =>
   have hid:=Jd hgb
   simp only [hgb] at hb
   obtain⟨z,hz,hzr⟩:∃z:kP,y.cells=z.cells∧lP G h z Y:=⟨_,rfl,hy⟩
   rw [hz] at hb
   split at hb
   case isFalse=>cases hb
   rename_i hcond
   obtain⟨hlen,hle,hall⟩:=hcond
   injection hb with hb
   subst hb
   obtain⟨rfl,_⟩:=hx.x6
   obtain⟨C,e,h1,h2,h3,h4⟩:=i.oP id _ hid
   obtain⟨c1,c2⟩:=BI hzr hall
   have hU:Y.cells.toList.length=z.cells.length:=by rw [an6,c1]
   have h1c:∀u∈Y.cells.toList,u.oneCell'=true:=by
    intro u hu
    obtain⟨j,hj⟩:=List.getElem?_of_mem hu
    have hjl:j < z.cells.length:=by rw [←hU]; exact(ab2.1 hj).1
    obtain⟨a1,a2⟩:=c2 j _ (ac1 hjl)
    have hval:Y.cells.getD j undef=u:=by rw [ab8,←ad5,hj]; rfl
    rw [hval] at a2
    exact(a2.Cz a1).1
   have hst:=run_storeCells_at P (G.oP id) off e Y.cells.toList 0 C w h1 (by rw [an6,h2]; omega) h1c
   simp only [an8] at hst
   have hw:=i.write (off:=off) (vs:=p9 h (cs'.drop off) z.cells) (U:=Y.cells.toList) hid h1 (by rw [yE]; omega) (by rw [yE]; exact hU) (fun j u hu=>by
    obtain⟨v,hv,hk⟩:=Es hu
    obtain⟨a1,a2⟩:=c2 j v hv
    rw [af0,ad5]
    rw [ab8] at a2
    exact R1 i hk a1 a2)
   refine⟨_,?_,hw⟩
   have hsz:Y.cells.size=n:=by omega
   simp [Instr.storeAt,Instr.sureAddr,storeVar,oW hn,hsz,hst]
 ·rename_i id tot off
  cases hgb:qK h id tot with
  | none=>simp [hgb] at hb
  | some x0 =>
   have hid:=vN hgb
   simp only [hgb] at hb
   obtain⟨z,hz,hzr⟩:∃z:kP,y.cells=z.cells∧lP G h z Y:=⟨_,rfl,hy⟩
   rw [hz] at hb
   split at hb
   case isFalse=>cases hb
   rename_i hcond
   obtain⟨hlen,hle,hall⟩:=hcond
   injection hb with hb
   subst hb
   obtain⟨b,hX,_,_,h3⟩:=hx.EX
   obtain⟨b',cap,C,e,g1,g2,g3,g4,g5,g6,g7,g8,g9⟩:=i.oP id _ hid
   obtain⟨cap0,h4⟩:=h3 (by rw [g1]; rfl)
   have h4':=h4
   rw [g1] at h4
   simp only [Value.slice.injEq,ab3,Addr.mk.injEq] at h4
   obtain⟨⟨rfl,_⟩,_,rfl⟩:=h4
   subst hX
   obtain⟨c1,c2⟩:=BI hzr hall
   have hU:Y.cells.toList.length=z.cells.length:=by rw [an6,c1]
   have h1c:∀u∈Y.cells.toList,u.oneCell'=true:=by
    intro u hu
    obtain⟨j,hj⟩:=List.getElem?_of_mem hu
    have hjl:j < z.cells.length:=by rw [←hU]; exact(ab2.1 hj).1
    obtain⟨a1,a2⟩:=c2 j _ (ac1 hjl)
    have hval:Y.cells.getD j undef=u:=by rw [ab8,←ad5,hj]; rfl
    rw [hval] at a2
    exact(a2.Cz a1).1
   have hcl:x0.2.length≤C.size:=by rw [g7,g5]; exact ag8 _ g3
   have hst:=run_storeCells_at P b' off e Y.cells.toList 0 C w g2 (by rw [an6]; omega) h1c
   simp only [an8] at hst
   have hw:=i.MP (off:=off) (vs:=z.cells) (U:=Y.cells.toList) hid h4' g2 (by omega) hU (fun j u hu=>by
    obtain⟨a1,a2⟩:=c2 j u hu
    rw [af0,ad5]
    rw [ab8] at a2
    exact⟨a1,a2⟩)
   refine⟨_,?_,hw⟩
   have hsz:Y.cells.size=n:=by omega
   simp [Instr.storeAt,Instr.sureAddr,storeVar,oW hn,hsz,hst]
 ·cases hb
end
end
section
open Go Go.RowKit
theorem Inv.Ce {G:Gh}{h:kT}{w:World}(i:Inv G h w) {b k:Nat}{v:Value}(hv:G.H b k=some v):b < w.heap.size:=by
 have:=i.ok b k v hv
 unfold World.cell? at this
 cases hh:w.heap[b]? with
 | none=>simp [hh] at this
 | some o=>exact(Array.getElem?_eq_some_iff.1 hh).1
theorem Inv.FI {G:Gh}{h:kT}{w:World}(i:Inv G h w) {b k:Nat}(hb:w.heap.size≤b):G.H b k=none:=by
 cases hv:G.H b k with
 | none=>rfl
 | some v=>have:=i.Ce hv; omega
theorem A0:∀(vs:List kP) (k:Nat),(lL k vs).1.length=vs.length∧(∀(j:Nat) (b:lR),(lL k vs).2[j]?=some b→b=.front 0 0) ∧
  ∀(j:Nat) (c:kP),(lL k vs).1[j]?=some c→vs[j]?=some c∨(vs[j]?=some (.slice [] .nil)∧∃id,k≤id∧c=.slice [] (.own id)∧(lL k vs).2[id - k]?=some (.front 0 0))
 | [],k=>by simp [lL]
 | v::r,k=>by
  by_cases hv:v=.slice [] .nil
  ·subst hv
   obtain⟨h1,h2,h3⟩:=A0 r (k+1)
   simp only [lL]
   refine⟨by simp [h1],?_,?_⟩
   ·intro j b hb
    cases j with
    | zero=>simp at hb; exact hb.symm
    | succ j=>exact h2 j b (by simpa using hb)
   ·intro j c hc
    cases j with
    | zero=>simp at hc; subst hc; exact .inr ⟨rfl,k,ac9 _,rfl,by simp⟩
    | succ j =>
     rcases h3 j c (by simpa using hc) with h4 | ⟨h4,id,h5,h6,h7⟩
     ·exact .inl (by simpa using h4)
     ·refine .inr ⟨by simpa using h4,id,by omega,h6,?_⟩
      rw [show id - k=(id - (k+1))+1 by omega]
      simpa using h7
  ·have he:lL k (v::r)=(v::(lL k r).1,(lL k r).2):=by
    rw [lL]
    exact hv
   obtain⟨h1,h2,h3⟩:=A0 r k
   rw [he]
   refine⟨by simp [h1],h2,?_⟩
   intro j c hc
   cases j with
   | zero=>simp at hc; subst hc; exact .inl rfl
   | succ j =>
    rcases h3 j c (by simpa using hc) with h4 | ⟨h4,h5⟩
    ·exact .inl (by simpa using h4)
    ·exact .inr ⟨by simpa using h4,h5⟩
section
variable {P:Program}{G:Gh}{h:kT}{w:World}{x y v:kP}{X Y V:Value}
theorem lP.Fg (r:lP G h (.slice [] .nil) V):V=.slice none 0 0:=by
 cases r with
 | p _ _ hp=>cases hp
 | nil=>rfl
def Gh.add (G:Gh) (n b:Nat):Gh:={ G with oP:=fun i=>if i=n then b else G.oP i,cur:=fun i=>if n < i then .slice none 0 0 else G.cur i }
theorem oB (w:World) (o:Obj) (k:Nat) (hk:k < w.heap.size):(w.alloc o).heap[k]?=w.heap[k]?:=Below.heap_alloc w o k hk
theorem Inv.new (i:Inv G h w) {n:Nat}{v p:kP}{h':kT}{Z:Value}(t:TypeId) (hb:lZ n h v=some (p,h')) (hr:lP G h v Z) :
  ∃G',Inv G' h' (w.alloc (.cells Z.cells t))∧Ext G h w G' h' (w.alloc (.cells Z.cells t))∧lP G' h' p (.pointer (some ⟨w.heap.size,0,none⟩))∧Z.cells.size=n:=by
 unfold lZ at hb
 simp only [] at hb
 split at hb
 case isFalse=>cases hb
 rename_i hcond
 obtain⟨hlen,hall⟩:=hcond
 simp only [ab3,af1] at hb
 obtain⟨rfl,rfl⟩:=hb
 obtain⟨c1,c2⟩:=BI hr hall
 obtain⟨t1,t2,t3⟩:=A0 v.cells (h.length+1)
 have hsz:Z.cells.size=n:=by omega
 refine⟨G.add h.length w.heap.size,?_⟩
 have key:=i.push (G':=G.add h.length w.heap.size) (ext:=.cells (lL (h.length+1) v.cells).1::(lL (h.length+1) v.cells).2) (w':=w.alloc (.cells Z.cells t))
  rfl rfl rfl (by simp) (fun k hk=>oB w _ k hk) (fun id hid=>by simp [Gh.add]; omega) (fun id hid=>by simp [Gh.add]; omega) (fun _ _ _ hh=>hh) (fun _ _ _=>rfl)
  (fun b k v hb hv=>by have:=i.Ce (b:=b) (k:=k) (v:=v) hv; omega)
  (fun j bl hj m=>by
   cases j with
   | zero =>
    simp at hj; subst hj
    refine⟨Z.cells,t,by simp only [Gh.add,an8,if_true]; exact heap_alloc_new w _,by omega,fun k=>by simp only [Gh.add,an8,if_true]; exact i.FI (ac9 _),fun j u hu=>?_⟩
    rcases t3 j u hu with h4 | ⟨h4,id,h5,h6,h7⟩
    ·exact⟨(c2 j u h4).1,(c2 j u h4).2.mono m⟩
    ·subst h6
     obtain⟨_,hz⟩:=c2 j _ h4
     have hz:=hz.Fg
     refine⟨rfl,?_⟩
     rw [hz]
     refine .own (t:=0) [] id 0 0 _ (.slice0 none 0) ?_ (ac9 _) (by simp) (fun _=>by simp only [Gh.add]; rw [if_pos (by omega)])
     rw [ae9 (by omega),show id - h.length=(id - (h.length+1))+1 by omega]
     simpa using h7
   | succ j =>
    have hj':=t2 j bl (by simpa using hj)
    subst hj'
    exact .inl ⟨rfl,by simp only [Gh.add]; rw [if_pos (by omega)]⟩)
  (fun j bl b hj ho=>by
   cases j with
   | zero=>simp at hj; subst hj; simp only [nJ,Gh.add,an8,if_true,ab3] at ho; omega
   | succ j =>
    have hj':=t2 j bl (by simpa using hj)
    subst hj'
    simp only [nJ,Gh.add] at ho
    rw [if_pos (by omega)] at ho
    cases ho)
  (fun j j' bl bl' b hj hj' ho ho'=>by
   have:∀j bl,(lR.cells (lL (h.length+1) v.cells).1::(lL (h.length+1) v.cells).2)[j]?=some bl→nJ (G.add h.length w.heap.size) (h.length+j) bl=some b→j=0:=by
    intro j bl hj ho
    cases j with
    | zero=>rfl
    | succ j =>
     have hj':=t2 j bl (by simpa using hj)
     subst hj'
     simp only [nJ,Gh.add] at ho
     rw [if_pos (by omega)] at ho
     cases ho
   rw [this j bl hj ho,this j' bl' hj' ho'])
 refine⟨key.1,key.2,?_,hsz⟩
 have hp:=lP.ptr (G:=G.add h.length w.heap.size) (h:=h++.cells (lL (h.length+1) v.cells).1::(lL (h.length+1) v.cells).2) h.length 0
  ⟨.cells (lL (h.length+1) v.cells).1,by simp,by simp⟩
 simpa [Gh.add] using hp
theorem Tk {t:TypeId}{n:Nat}{p:kP}{h':kT}(i:Inv G h w) (hb:lZ n h x=some (p,h')) (hx:lP G h x X) :
  ∃V w' G',(Instr.box t X).run P w=.ok V w'∧Inv G' h' w'∧Ext G h w G' h' w'∧lP G' h' p V:=by
 obtain⟨G',h1,h2,h3,_⟩:=i.new t hb hx
 exact⟨_,_,G',by simp [Instr.box,newVar,newRow,Sem.run_pure],h1,h2,h3⟩
theorem sI {t:TypeId}{z:kP}(hz:sY P t=some z):∃Z,(zeroValue t).run P w=.ok Z w∧lP G h z Z:=by
 unfold sY at hz
 cases hi:P.info? t with
 | none=>simp [hi] at hz
 | some ti =>
  cases hzz:ti.zero with
  | none=>simp [hi,hzz] at hz
  | some Z =>
   simp [hi,hzz] at hz; subst hz
   exact⟨Z,by simp [zeroValue,Go.typeInfo,hi,hzz,Sem.run_pure],wX G h Z⟩
theorem OV {t:TypeId}{n:Nat}{z p:kP}{h':kT}(i:Inv G h w) (hz:sY P t=some z) (hb:lZ n h z=some (p,h')) :
  ∃V w' G',(Instr.alloc t true (.tuple #[])).run P w=.ok V w'∧Inv G' h' w'∧Ext G h w G' h' w'∧lP G' h' p V:=by
 obtain⟨Z,hz1,hz2⟩:=sI (P:=P) (G:=G) (h:=h) (w:=w) hz
 obtain⟨G',h1,h2,h3,_⟩:=i.new t hb hz2
 refine⟨_,_,G',?_,h1,h2,h3⟩
 simp [Instr.alloc,hz1,newVar,newRow,Sem.run_pure]
end
end
section
open Go Go.RowKit
theorem N8 (off:Nat):∀(us:List Value) (k:Nat) (C:Array Value),off+k+us.length≤C.size →
  ((us.zipIdx k).foldl (fun(cs:Array Value) p=>cs.setIfInBounds (off+p.2) p.1) C)=(C.toList.take (off+k)++us++C.toList.drop (off+k+us.length)).toArray
 | [],k,C,_=>by simp
 | u::us,k,C,hl=>by
  simp only [List.zipIdx_cons,List.foldl_cons]
  rw [N8 off us (k+1) (C.setIfInBounds (off+k) u) (by simp at hl ⊢; omega)]
  congr 1
  have e:=list_seg_step C.toList (off+k) u us (by simp at hl ⊢; omega)
  simpa [Array.toList_setIfInBounds,Nat.add_assoc] using e
section
variable {P:Program}{G:Gh}{h:kT}{w:World}{x y v:kP}{X Y V:Value}
theorem xE (hj:x.pN=false) (hx:lP G h x X):x.cells.length=X.cells.size∧∀(i:Nat) (u:kP),x.cells[i]?=some u→lP G h u (X.cells.getD i undef):=by
 by_cases ha:∃cs,x=.agg cs
 ·obtain⟨cs,rfl⟩:=ha
  obtain⟨C,rfl,hl,hr⟩:=hx.zV
  exact⟨hl,hr⟩
 ·have hc:x.cells=[x]:=by cases x <;> simp_all [kP.cells]
  have hX:X.cells=#[X]:=by
   cases hx with
   | p _ _ hp=>cases hp <;> simp_all [kP.pN,Value.cells]
   | own _ _ _ _ _ hp=>cases hp <;> simp [Value.cells]
   | ownv _ _ hp=>cases hp <;> simp [Value.cells]
   | _=>simp_all [Value.cells]
  rw [hc,hX]
  refine⟨rfl,fun i u hu=>?_⟩
  cases i with
  | zero=>simp at hu; subst hu; simpa using hx
  | succ i=>simp at hu
def Jy (G:Gh) (h:kT) (cs:List kP) (C:Array Value):Prop:=cs.length=C.size∧∀(i:Nat) (u:kP),cs[i]?=some u→lP G h u (C.getD i undef)
theorem Jy.put {cs vs:List kP}{C:Array Value}{U:List Value}{off:Nat}(hc:Jy G h cs C) (hle:off+vs.length≤cs.length) (hU:U.length=vs.length)
  (hr:∀(j:Nat) (u:kP),vs[j]?=some u→lP G h u (U.getD j undef)):Jy G h (putCells cs off vs) (C.toList.take off++U++C.toList.drop (off+U.length)).toArray:=by
 obtain⟨h1,h2⟩:=hc
 have hoff:off+U.length≤C.size:=by omega
 refine⟨by rw [t_ cs vs off hle]; simp; omega,fun j u hu=>?_⟩
 rw [xV cs vs off j hle] at hu
 rw [ab8,vG C U off j hoff]
 split at hu
 ·rename_i hj; rw [if_pos hj]; have:=h2 j u hu; rwa [ab8] at this
 ·rename_i hj
  rw [if_neg hj]
  split at hu
  ·rename_i hj2; rw [if_pos (by omega)]; have:=hr _ u hu; rwa [af0] at this
  ·rename_i hj2; rw [if_neg (by omega)]; have:=h2 j u hu; rwa [ab8] at this
theorem DF (place:Nat→Option (Nat×Nat)) (places:List (Nat×Nat)) (hp:∀i p,places[i]?=some p→place i=some p) :
  ∀(parts:List (Nat×kP)) (PS:List (Nat×Value)) (zero:List kP) (Z:Array Value) (r:kP),Jy G h zero Z →
   (parts.map (·.1)=PS.map (·.1))→(∀(j:Nat) a b,parts[j]?=some a→PS[j]?=some b→lP G h a.2 b.2)→l_ zero places parts=some r →
   ∃C cs,Instr.fill place Z PS=some C∧r=.agg cs∧Jy G h cs C
 | [],PS,zero,Z,r,hz,hm,_,hb=>by
  have:PS=[]:=by simpa using hm.symm
  subst this
  simp only [l_,ab3] at hb; subst hb
  exact⟨Z,zero,rfl,rfl,hz⟩
 | (i,u)::rest,[],zero,Z,r,_,hm,_,_=>by simp at hm
 | (i,u)::rest,(i',U)::PS,zero,Z,r,hz,hm,hr,hb=>by
  simp only [List.map_cons,List.cons.injEq] at hm
  obtain⟨rfl,hm⟩:=hm
  simp only [l_] at hb
  split at hb
  ·rename_i off n hpl
   split at hb
   case isFalse=>cases hb
   rename_i hcond
   obtain⟨hj,hn,hle⟩:=hcond
   have hU:lP G h u U:=hr 0 (i,u) (i,U) rfl rfl
   obtain⟨c1,c2⟩:=xE hj hU
   subst hn
   have hpl':=hp i _ hpl
   have hput:=hz.put (U:=U.cells.toList) hle (by simpa using c1.symm) (fun j a ha=>by
    have:=c2 j a ha
    rw [af0,ad5]
    rwa [ab8] at this)
   obtain⟨C,cs,e1,e2,e3⟩:=DF place places hp rest PS _ _ r hput hm (fun j a b ha hb=>hr (j+1) a b (by simpa using ha) (by simpa using hb)) hb
   refine⟨C,cs,?_,e2,e3⟩
   have hzl:zero.length=Z.size:=hz.1
   have hfold:=N8 off U.cells.toList 0 Z (by rw [an6]; omega)
   simp only [an8] at hfold
   have hsz:U.cells.size=u.cells.length:=c1.symm
   simp only [Instr.fill,hpl',hsz,ne_eq,not_true_eq_false,false_or]
   rw [if_neg (by simp; omega)]
   rw [←Array.foldl_toList,Array.toList_zipIdx,hfold]
   exact e1
  ·cases hb
theorem M1 {t:TypeId}{fs:Array Field}{z r:kP}{places:List (Nat×Nat)}{parts:Array (Nat×Operand)}{f:Operand→kP}{F:Operand→Value}
  (ht:P.underlying t=some (.struct fs)) (hz:sY P t=some z) (hp:fs.toList.mapM (fun f=>(o0 P f.type).map fun n=>(f.offset,n))=some places) (hf:∀o,lP G h (f o) (F o))
  (hzj:z.pN=false) (hb:l_ z.cells places (parts.toList.map fun p=>(p.1,f p.2))=some r) :
  ∃V,(Instr.build t (parts.map fun(i,x)=>(i,F x))).run P w=.ok V w∧lP G h r V:=by
 obtain⟨Z,hz1,hz2⟩:=sI (P:=P) (G:=G) (h:=h) (w:=w) hz
 have hmap:∀(l:List Field) (ps:List (Nat×Nat)),l.mapM (fun f=>(o0 P f.type).map fun n=>(f.offset,n))=some ps →
   (l.mapM (fun f=>(Prod.mk f.offset <$> Go.sizeOf f.type:Sem (Nat×Nat)))).run P w=.ok ps w:=by
  intro l
  induction l with
  | nil=>intro ps hps; simp at hps; subst hps; simp [Sem.run_pure]
  | cons f l ih =>
   intro ps hps
   simp only [List.mapM_cons,Option.bind_eq_bind,ab0] at hps
   obtain⟨a,ha,bs,hbs,hps⟩:=hps
   cases hs:o0 P f.type with
   | none=>simp [hs] at ha
   | some n =>
    simp [hs] at ha; subst ha
    simp only [Option.pure_def,ab3] at hps; subst hps
    simp only [List.mapM_cons,map_eq_pure_bind] at ih ⊢
    simp only [Sem.run_bind,oW hs,Sem.run_pure,Result.andThen_ok,ih bs hbs]
 have hmapA:(fs.mapM (fun f=>(Prod.mk f.offset <$> Go.sizeOf f.type:Sem (Nat×Nat)))).run P w=.ok places.toArray w:=by
  rw [Array.mapM_eq_mapM_toList]
  have:=hmap fs.toList places hp
  simp only [map_eq_pure_bind] at this
  simp only [map_eq_pure_bind,Sem.run_bind,this,Result.andThen_ok,Sem.run_pure]
 obtain⟨C,cs,e1,rfl,e3⟩:=DF (G:=G) (h:=h) (fun i=>places.toArray[i]?) places (by simp) _ (parts.toList.map fun p=>(p.1,F p.2)) z.cells Z.cells r (xE hzj hz2)
  (by simp) (fun j a b ha hb=>by
   simp only [ag6,ac5] at ha hb
   obtain⟨p,hp1,rfl⟩:=ha
   obtain⟨q,hq1,rfl⟩:=hb
   rw [hp1] at hq1; cases hq1
   exact hf _) hb
 refine⟨.agg C,?_,.agg _ _ e3.1 e3.2⟩
 simp only [List.getElem?_toArray] at e1
 simp [Instr.build,hz1,run_underlying ht,hmapA,e1,Sem.run_pure]
theorem OX {t e:TypeId}{len n:Nat}{z r:kP}{parts:Array (Nat×Operand)}{f:Operand→kP}{F:Operand→Value}
  (ht:P.underlying t=some (.array len e)) (hz:sY P t=some z) (hn:o0 P e=some n) (hf:∀o,lP G h (f o) (F o))
  (hzj:z.pN=false) (hb:l_ z.cells ((List.range len).map fun i=>(i * n,n)) (parts.toList.map fun p=>(p.1,f p.2))=some r) :
  ∃V,(Instr.build t (parts.map fun(i,x)=>(i,F x))).run P w=.ok V w∧lP G h r V:=by
 obtain⟨Z,hz1,hz2⟩:=sI (P:=P) (G:=G) (h:=h) (w:=w) hz
 obtain⟨C,cs,e1,rfl,e3⟩:=DF (G:=G) (h:=h) (fun i=>some (i * n,n)) ((List.range len).map fun i=>(i * n,n)) (fun i p hp=>by
   simp only [ag6,ac5] at hp
   obtain⟨a,ha,rfl⟩:=hp
   have:=(ab2.1 ha).2
   simp at this; rw [this]) _ (parts.toList.map fun p=>(p.1,F p.2)) z.cells Z.cells r (xE hzj hz2)
  (by simp) (fun j a b ha hb=>by
   simp only [ag6,ac5] at ha hb
   obtain⟨p,hp1,rfl⟩:=ha
   obtain⟨q,hq1,rfl⟩:=hb
   rw [hp1] at hq1; cases hq1
   exact hf _) hb
 refine⟨.agg C,?_,.agg _ _ e3.1 e3.2⟩
 simp [Instr.build,hz1,run_underlying ht,oW hn,e1,Sem.run_pure]
theorem zM {c c' : kP} {V : Value} (hp : c.CD = some c') (hr : lP G h c V) : rI G.H c' V ∧ c'.mH = true := by
  unfold kP.CD at hp
  split at hp <;> simp only [ab3, reduceCtorEq] at hp <;> subst hp
  all_goals first
    | exact ⟨hr.wK, rfl⟩
    | (refine ⟨?_, rfl⟩; cases hr with | p _ _ h => exact h)
    | (refine ⟨?_, rfl⟩
       cases hr with
       | p _ _ h => exact h
       | func f first cap F C hlf hlc hf hc =>
         have h1 : F = #[] := Array.eq_empty_of_size_eq_zero hlf.symm
         have h2 : C = #[] := Array.eq_empty_of_size_eq_zero hlc.symm
         subst h1; subst h2; exact .func _)
theorem tJ:∀{cs row:List kP},oC cs=some row→row.length=cs.length∧∀(j:Nat) (c:kP),cs[j]?=some c→∃c',row[j]?=some c'∧c.CD=some c'
 | [],row,hp=>by simp only [oC,ab3] at hp; subst hp; simp
 | v::r,row,hp=>by
  simp only [oC] at hp
  split at hp <;> simp only [ab3,reduceCtorEq] at hp
  rename_i a b ha hb
  subst hp
  obtain⟨h1,h2⟩:=tJ hb
  refine⟨by simp [h1],fun j c hc=>?_⟩
  cases j with
  | zero=>simp at hc; subst hc; exact⟨a,rfl,ha⟩
  | succ j=>obtain⟨c',e1,e2⟩:=h2 j c (by simpa using hc); exact⟨c',by simpa using e1,e2⟩
theorem uP:∀(n sz:Nat) (cs:List kP),n * sz≤cs.length→(rowsOf n sz cs).length=n∧(∀r∈rowsOf n sz cs,r.length=sz) ∧
  ∀(i j:Nat) (row:List kP) (c:kP),(rowsOf n sz cs)[i]?=some row→row[j]?=some c→cs[i * sz+j]?=some c
 | 0,sz,cs,_=>by simp [rowsOf]
 | n+1,sz,cs,hl=>by
  have hl':n * sz≤(cs.drop sz).length:=by rw [List.length_drop]; rw [ak3] at hl; omega
  obtain⟨h1,h2,h3⟩:=uP n sz (cs.drop sz) hl'
  simp only [rowsOf]
  have hsz:(cs.take sz).length=sz:=by rw [aj9]; rw [ak3] at hl; omega
  refine⟨by simp [h1],?_,?_⟩
  ·intro r hr
   rcases List.mem_cons.1 hr with rfl | hr
   ·exact hsz
   ·exact h2 r hr
  ·intro i j row c hi hj
   cases i with
   | zero =>
    simp at hi; subst hi
    rw [af4] at hj
    split at hj
    ·simpa using hj
    ·cases hj
   | succ i =>
    have:=h3 i j row c (by simpa using hi) hj
    rw [ag5] at this
    rw [show(i+1) * sz+j=sz+(i * sz+j) by rw [ak3]; omega]
    exact this
theorem Dm {H:Nat→Nat→Option Value}{n sz b off cap:Nat}{row:List kP}{F:Nat→Value}(hl:n * sz≤row.length) (hc:n≤cap)
  (hH:∀(j:Nat) (c:kP),row[j]?=some c→j < n * sz→H b (off+j)=some (F j)∧rI H c (F j)∧c.mH=true) :
  rI H (.slice (rowsOf n sz row) .no) (.slice (some ⟨b,off,none⟩) n cap):=by
 obtain⟨h1,h2,h3⟩:=uP n sz row hl
 have hb:∀(i j:Nat) (r:List kP) (c:kP),(rowsOf n sz row)[i]?=some r→r[j]?=some c→row[i * sz+j]?=some c∧i * sz+j < n * sz:=by
  intro i j r c hi hj
  refine⟨h3 i j r c hi hj,?_⟩
  have hi':i < n:=by rw [←h1]; exact(ab2.1 hi).1
  have hj':j < sz:=by rw [←h2 r (am4 hi)]; exact(ab2.1 hj).1
  calc i * sz+j < i * sz+sz:=by omega
   _=(i+1) * sz:=by rw [ak3]; omega
   _≤n * sz:=ag8 _ hi'
 have:=rI.slice (H:=H) (rowsOf n sz row) b off cap sz F h2 (by rw [h1]; exact hc)
  (fun i j r c hi hj=>by obtain⟨a1,a2⟩:=hb i j r c hi hj; exact(hH _ c a1 a2).1)
  (fun i j r c hi hj=>by obtain⟨a1,a2⟩:=hb i j r c hi hj; exact(hH _ c a1 a2).2.2)
  (fun i j r c hi hj=>by obtain⟨a1,a2⟩:=hb i j r c hi hj; exact(hH _ c a1 a2).2.1)
 rwa [h1] at this
end
end
section
open Go Go.RowKit
section
variable {P:Program}{G:Gh}{h:kT}{w:World}{x y v:kP}{X Y V:Value}
def Gh.tW (G:Gh) (n b:Nat) (C:Array Value) (V:Value):Gh :=
 {G with H:=fun c k=>if c=b then C[k]? else G.H c k,cur:=fun i=>if i=n then V else G.cur i }
theorem Inv.newRow (i:Inv G h w) {len sz:Nat}{cs row:List kP}{C:Array Value}(e:TypeId) (hc:Jy G h cs C) (hp:oC cs=some row) (hl:C.size=len * sz) (hmax:len≤maxLen) (hsz0:0 < sz) :
  ∃G',Inv G' (h++[.front len sz]) (w.alloc (.cells C e))∧Ext G h w G' (h++[.front len sz]) (w.alloc (.cells C e)) ∧
   lP G' (h++[.front len sz]) (.slice (rowsOf len sz row) (.own h.length)) (.slice (some ⟨w.heap.size,0,none⟩) len len):=by
 obtain⟨p1,p2⟩:=tJ hp
 obtain⟨c1,c2⟩:=hc
 have hHlt:∀{b k v},G.H b k=some v→b≠w.heap.size:=fun hv=>by have:=i.Ce hv; omega
 refine⟨G.tW h.length w.heap.size C (.slice (some ⟨w.heap.size,0,none⟩) len len),?_⟩
 have hmono:∀b k v,G.H b k=some v→(G.tW h.length w.heap.size C (.slice (some ⟨w.heap.size,0,none⟩) len len)).H b k=some v:=by
  intro b k v hv; simp only [Gh.tW,if_neg (hHlt hv),hv]
 have key:=i.push (G':=G.tW h.length w.heap.size C (.slice (some ⟨w.heap.size,0,none⟩) len len)) (ext:=[.front len sz]) (w':=w.alloc (.cells C e))
  rfl rfl rfl (by simp) (fun k hk=>oB w _ k hk) (fun id hid=>rfl) (fun id hid=>by simp only [Gh.tW]; rw [if_neg (by omega)]) hmono
  (fun b k hb=>by simp only [Gh.tW]; rw [if_neg (by omega)])
  (fun b k v hb hv=>by
   by_cases hbe:b=w.heap.size
   ·subst hbe
    simp only [Gh.tW,if_true] at hv
    rw [cell_of _ _ _ (heap_alloc_new w _),hv]
   ·simp only [Gh.tW,if_neg hbe] at hv
    have:=i.Ce hv; omega)
  (fun j bl hj m=>by
   cases j with
   | zero =>
    simp at hj; subst hj
    refine .inr ⟨w.heap.size,len,C,e,by simp [Gh.tW],heap_alloc_new w _,ac9 _,hmax,hl,hsz0,fun k hk=>?_,fun h=>absurd rfl h⟩
    simp only [Gh.tW,if_true]
    exact Array.getElem?_eq_none (by omega)
   | succ j=>simp at hj)
  (fun j bl b hj ho=>by
   cases j with
   | zero=>simp at hj; subst hj; simp only [nJ,Gh.tW,an8,if_true,Value.ownBlock,ab3] at ho; omega
   | succ j=>simp at hj)
  (fun j j' bl bl' b hj hj' _ _=>by
   have h1:j < 1:=by simpa using (ab2.1 hj).1
   have h2:j' < 1:=by simpa using (ab2.1 hj').1
   omega)
 refine⟨key.1,key.2,?_⟩
 have hlen:(rowsOf len sz row).length=len:=(uP len sz row (by omega)).1
 refine .own (t:=0) _ h.length len sz _ ?_ (by simp) (by omega) (uP len sz row (by omega)).2.1 (fun _=>by simp [Gh.tW])
 refine Dm (F:=fun j=>C.getD j undef) (by omega) (ac9 _) fun j c hj hlt=>?_
 have hjl:j < C.size:=by omega
 obtain⟨c0,hc0⟩:∃c0,cs[j]?=some c0:=⟨cs[j]'(by omega),ac1 (by omega)⟩
 obtain⟨c',e1,e2⟩:=p2 j c0 hc0
 rw [hj] at e1; cases e1
 obtain⟨q1,q2⟩:=zM e2 (c2 j c0 hc0)
 refine⟨?_,q1.mono hmono,q2⟩
 simp [Gh.tW,ab8,hjl]
theorem Ai {zc:List kP}{Z:Array Value}(hz:Jy G h zc Z):∀(len:Nat),Jy G h (ah7 len zc).flatten ((Array.range (len * Z.size)).map fun j=>Z[j % Z.size]!):=by
 intro len
 obtain⟨h1,h2⟩:=hz
 refine⟨by simp [h1],fun j u hu=>?_⟩
 have hlt:j < len * zc.length:=by
  have:=(ab2.1 hu).1
  simpa using this
 have hpos:0 < zc.length:=by
  rcases Nat.eq_zero_or_pos zc.length with h0 | h0
  ·rw [h0] at hlt; omega
  ·exact h0
 have hmod:j % zc.length < zc.length:=Nat.mod_lt _ hpos
 have hflat:∀(n j:Nat),j < n * zc.length→(ah7 n zc).flatten[j]?=zc[j % zc.length]?:=by
  intro n
  induction n with
  | zero=>intro j hj; omega
  | succ n ih =>
   intro j hj
   rw [List.replicate_succ,List.flatten_cons]
   by_cases hjl:j < zc.length
   ·rw [af2 hjl,Nat.mod_eq_of_lt hjl]
   ·rw [ae9 (by omega),ih (j - zc.length) (by rw [ak3] at hj; omega)]
    rw [Nat.mod_eq_sub_mod (a:=j) (by omega)]
 rw [hflat len j hlt] at hu
 have:=h2 _ u hu
 rw [h1] at hlt hmod this
 have e:((Array.range (len * Z.size)).map fun j=>Z[j % Z.size]!).getD j undef=Z.getD (j % Z.size) undef:=by
  simp [ab8,hlt,hmod]
 rw [e]; exact this
theorem C4 {t e:TypeId}{len sz:Nat}{z:kP}{cs:List kP}{parts:Array (Nat×Operand)}{f:Operand→kP}{F:Operand→Value}
  (ht:P.underlying t=some (.slice e)) (hz:sY P e=some z) (hn:o0 P e=some sz) (hsz:sz≠0) (hle:len * sz≤16777216) (hf:∀o,lP G h (f o) (F o)) (hzj:z.pN=false) (hzl:z.cells.length=sz)
  (hbd:l_ (ah7 len z.cells).flatten ((List.range len).map fun i=>(i * sz,sz)) (parts.toList.map fun p=>(p.1,f p.2))=some (.agg cs)) :
  ∃C,Jy G h cs C∧C.size=len * sz∧len≤maxLen ∧
   (Instr.buildSlice t len (parts.map fun(i,x)=>(i,F x))).run P w=.ok (.slice (some ⟨w.heap.size,0,none⟩) len len) (w.alloc (.cells C e)):=by
 obtain⟨Z,hz1,hz2⟩:=sI (P:=P) (G:=G) (h:=h) (w:=w) hz
 have hzc:=xE hzj hz2
 have hZs:Z.cells.size=sz:=by rw [←hzl]; exact hzc.1.symm
 obtain⟨C,cs',e1,e2,e3⟩:=DF (G:=G) (h:=h) (fun i=>some (i * sz,sz)) ((List.range len).map fun i=>(i * sz,sz)) (fun i p hp=>by
   simp only [ag6,ac5] at hp
   obtain⟨a,ha,rfl⟩:=hp
   have:=(ab2.1 ha).2
   simp at this; rw [this]) _ (parts.toList.map fun p=>(p.1,F p.2)) _ _ _ (Ai hzc len)
  (by simp) (fun j a b ha hb=>by
   simp only [ag6,ac5] at ha hb
   obtain⟨p,hp1,rfl⟩:=ha
   obtain⟨q,hq1,rfl⟩:=hb
   rw [hp1] at hq1; cases hq1
   exact hf _) hbd
 cases e2
 have hlen:∀(places:List (Nat×Nat)) (parts:List (Nat×kP)) (zc:List kP) (r:kP),l_ zc places parts=some r→∃cs,r=.agg cs∧cs.length=zc.length:=by
  intro places parts
  induction parts with
  | nil=>intro zc r hr; simp only [l_,ab3] at hr; exact⟨zc,hr.symm,rfl⟩
  | cons p parts ih =>
   intro zc r hr
   simp only [l_] at hr
   split at hr
   ·split at hr
    case isFalse=>cases hr
    rename_i hc
    obtain⟨cs,e1,e2⟩:=ih _ _ hr
    refine⟨cs,e1,e2.trans ?_⟩
    exact t_ _ _ _ (by obtain⟨_,h2,h3⟩:=hc; omega)
   ·cases hr
 obtain⟨cs2,e4,e5⟩:=hlen _ _ _ _ hbd
 cases e4
 have hCs:C.size=len * sz:=by
  rw [←e3.1,e5]; simp [hzl]
 refine⟨C,e3,hCs,by
  have:len≤len * sz:=Nat.le_mul_of_pos_right _ (by omega)
  simp only [maxLen]; omega,?_⟩
 have hnle:¬(len * sz > 2 ^ 24):=by omega
 rw [hZs] at e1
 by_cases h0:len * sz=0
 ·have hl0:len=0:=by
   rcases Nat.mul_eq_zero.1 h0 with h1 | h1
   ·exact h1
   ·exact absurd h1 hsz
  subst hl0
  have hE:∀g:Nat→Value,Array.map g (Array.range 0)=#[]:=fun g=>Array.eq_empty_of_size_eq_zero (by simp)
  simp only [Nat.zero_mul,hE] at e1
  simp [Instr.buildSlice,run_underlying ht,oW hn,hE,e1,newRow,Sem.run_pure]
 ·simp [Instr.buildSlice,run_underlying ht,oW hn,hnle,h0,hz1,hZs,e1,newRow,Sem.run_pure]
theorem BU {t e:TypeId}{len sz:Nat}{z:kP}{rows:List (List kP)}{parts:Array (Nat×Operand)}{f:Operand→kP}{F:Operand→Value}
  (ht:P.underlying t=some (.slice e)) (hz:sY P e=some z) (hn:o0 P e=some sz) (hsz:sz≠0) (hle:len * sz≤16777216) (hf:∀o,lP G h (f o) (F o)) (hzj:z.pN=false)
  (hb:tQ len sz z.cells (parts.toList.map fun p=>(p.1,f p.2))=some rows) :
  ∃cs row C,oC cs=some row∧rows=rowsOf len sz row∧Jy G h cs C∧C.size=len * sz∧len≤maxLen ∧
   (Instr.buildSlice t len (parts.map fun(i,x)=>(i,F x))).run P w=.ok (.slice (some ⟨w.heap.size,0,none⟩) len len) (w.alloc (.cells C e)):=by
 unfold tQ at hb
 split at hb
 ·rename_i cs hbd
  split at hb
  ·rename_i row hrow
   split at hb
   case isFalse=>cases hb
   rename_i hcond
   obtain⟨hzl,hall⟩:=hcond
   simp only [ab3] at hb
   subst hb
   obtain⟨C,e3,hCs,hm,hrun⟩:=C4 (G:=G) (h:=h) (w:=w) ht hz hn hsz hle hf hzj hzl hbd
   exact⟨cs,row,C,hrow,rfl,e3,hCs,hm,hrun⟩
  ·cases hb
 ·cases hb
theorem Gw {t e:TypeId}{len sz:Nat}{z r:kP}{h':kT}{parts:Array (Nat×Operand)}{f:Operand→kP}{F:Operand→Value}
  (i:Inv G h w) (ht:P.underlying t=some (.slice e)) (hz:sY P e=some z) (hn:o0 P e=some sz) (hsz:sz≠0) (hle:len * sz≤16777216) (hf:∀o,lP G h (f o) (F o)) (hzj:z.pN=false)
  (hb:lB len sz z.cells (parts.toList.map fun p=>(p.1,f p.2)) h=some (r,h')) :
  ∃V w' G',(Instr.buildSlice t len (parts.map fun(i,x)=>(i,F x))).run P w=.ok V w'∧Inv G' h' w'∧Ext G h w G' h' w'∧lP G' h' r V:=by
 unfold lB at hb
 split at hb
 ·rename_i rows hrows
  simp only [ab3,af1] at hb
  obtain⟨rfl,rfl⟩:=hb
  obtain⟨cs,row,C,h1,rfl,h3,h4,h5,h6⟩:=BU (G:=G) (h:=h) (w:=w) ht hz hn hsz hle hf hzj hrows
  obtain⟨G',g1,g2,g3⟩:=i.newRow e h3 h1 h4 h5 (by omega)
  exact⟨_,_,G',h6,g1,g2,g3⟩
 ·cases hb
end
end
section
open Go Go.RowKit
theorem Inv.drew {G:Gh}{h:kT}{w:World}(i:Inv G h w):Inv G h w.drew:=⟨i.ok,fun id bl hb=>by have:=i.oP id bl hb; cases bl <;> exact this,i.inj⟩
theorem Inv.drawn {G:Gh}{h:kT}{w:World}(i:Inv G h w) (d:Nat):Inv G h { w with drawn:=d }:=⟨i.ok,fun id bl hb=>by have:=i.oP id bl hb; cases bl <;> exact this,i.inj⟩
theorem Ext.drawn (G:Gh) (h:kT) (w:World) (d:Nat):Ext G h w G h { w with drawn:=d } :=
 ⟨rfl,rfl,rfl,ac9 _,fun _ _ _=>⟨rfl,fun _=>rfl⟩,fun _ _ _ h=>h,fun _ _ h _=>h,fun id bl hb=>⟨bl,hb,Kind.refl G id bl⟩⟩
theorem Ext.drew (G:Gh) (h:kT) (w:World):Ext G h w G h w.drew :=
 ⟨rfl,rfl,rfl,ac9 _,fun _ _ _=>⟨rfl,fun _=>rfl⟩,fun _ _ _ h=>h,fun _ _ h _=>h,fun id bl hb=>⟨bl,hb,Kind.refl G id bl⟩⟩
section
variable {P:Program}{G:Gh}{h:kT}{w:World}{x y v:kP}{X Y V:Value}
structure Src (G:Gh) (h:kT) (w:World) (sz:Nat) (rows:List (List kP)) (X:Value) (a:Option Addr) (news:List Value):Prop where
 form:∃cap,X=.slice a rows.length cap
 len:news.length=rows.length * sz
 rlen:∀r∈rows,r.length=sz
 at_:∀(j:Nat) u,news[j]?=some u→∃ad,a=some ad∧w.cell? (ad.add j)=some u
 rel:∀(i j:Nat) (row:List kP) (c:kP),rows[i]?=some row→row[j]?=some c→∃u,news[i * sz+j]?=some u∧rI G.H c u∧c.mH=true
theorem zW {sz : Nat} {rows : List (List kP)} (i : Inv G h w) (hb : qU sz h x = some rows) (hx : lP G h x X) : ∃ a news, Src G h w sz rows X a news := by
  unfold qU at hb
  split at hb
  · rename_i rows' tok
    split at hb
    case isFalse => cases hb
    rename_i hall
    simp only [ab3] at hb; subst hb
    have hrl : ∀ r ∈ rows', r.length = sz := fun r hr => by simpa using ag3.1 hall r hr
    have hp := hx.wK
    cases hp with
    | slice0 a cap => exact ⟨a, [], ⟨cap, rfl⟩, by simp, by simp, by simp, by simp⟩
    | slice rows b off cap sz' F hr hc hH hk hV =>
      have hszz : 0 < rows'.length → sz' = sz := fun h0 => by
        have hm : rows'[0]? = some rows'[0] := ac1 h0
        rw [← hr _ (am4 hm), hrl _ (am4 hm)]
      refine ⟨some ⟨b, off, none⟩, (List.range (rows'.length * sz)).map F, ⟨cap, rfl⟩, by simp, hrl, ?_, ?_⟩
      · intro j u hu
        have hj : j < rows'.length * sz := by simpa using (ab2.1 hu).1
        have hpos : 0 < sz := by rcases Nat.eq_zero_or_pos sz with h0 | h0; · rw [h0] at hj; omega
                                 · exact h0
        have hrow : j / sz < rows'.length := (Nat.div_lt_iff_lt_mul hpos).2 hj
        have h1 : rows'[j / sz]? = some rows'[j / sz] := ac1 hrow
        have hl := hrl _ (am4 h1)
        have h2 : rows'[j / sz][j % sz]? = some (rows'[j / sz][j % sz]'(by rw [hl]; exact Nat.mod_lt _ hpos)) := ac1 _
        have hs' := hszz (Nat.lt_of_le_of_lt (ak5 _) hrow)
        subst hs'
        have h3 := hH _ _ _ _ h1 h2
        rw [show j / sz' * sz' + j % sz' = j by rw [Nat.mul_comm]; exact Nat.div_add_mod j sz'] at h3
        refine ⟨_, rfl, ?_⟩
        rw [add_plain, i.ok _ _ _ h3]
        simp [hj] at hu
        rw [hu]
      · intro i' j row c h1 h2
        have hl := hrl _ (am4 h1)
        have hi' : i' < rows'.length := (ab2.1 h1).1
        have hj' : j < sz := by rw [← hl]; exact (ab2.1 h2).1
        have hs' := hszz (by omega)
        subst hs'
        refine ⟨F (i' * sz' + j), ?_, hV _ _ _ _ h1 h2, hk _ _ _ _ h1 h2⟩
        have : i' * sz' + j < rows'.length * sz' := by
          calc i' * sz' + j < i' * sz' + sz' := by omega
            _ = (i' + 1) * sz' := by rw [ak3]; omega
            _ ≤ rows'.length * sz' := ag8 _ hi'
        simp [this]
  · rename_i id off len sz'
    cases hgb : oM h id with
    | none => simp [hgb] at hb
    | some cs =>
      have hid := Jd hgb
      simp only [hgb] at hb
      split at hb
      case isFalse => cases hb
      rename_i hcond
      obtain ⟨rfl, hle⟩ := hcond
      split at hb <;> simp only [ab3, reduceCtorEq] at hb
      rename_i row hrow
      subst hb
      obtain ⟨a, cap, rfl, hlc, ha⟩ := hx.Az
      obtain ⟨C, e, h1, h2, h3, h4⟩ := i.oP id _ hid
      obtain ⟨p1, p2⟩ := tJ hrow
      have hdl : ((cs.drop off).take (len * sz')).length = len * sz' := by rw [aj9, List.length_drop]; omega
      rw [hdl] at p1
      obtain ⟨q1, q2, q3⟩ := uP len sz' row (by omega)
      refine ⟨a, (C.toList.drop off).take (len * sz'), ⟨cap, by rw [q1]⟩, by rw [q1, aj9, List.length_drop, an6]; omega, q2, ?_, ?_⟩
      · intro j u hu
        rw [af4] at hu
        split at hu
        · rename_i hj
          have hpos : 0 < len := by rcases Nat.eq_zero_or_pos len with h0 | h0; · rw [h0] at hj; omega
                                    · exact h0
          obtain ⟨rfl, _⟩ := ha hpos
          refine ⟨_, rfl, ?_⟩
          rw [add_plain, cell_of w _ _ h1]
          rw [ag5, ad5] at hu
          exact hu
        · cases hu
      · intro i' j r c hi hj
        have hrow' := q3 i' j r c hi hj
        have hlt : i' * sz' + j < len * sz' := by
          have := (ab2.1 hrow').1; omega
        have hget : ∃ c0, ((cs.drop off).take (len * sz'))[i' * sz' + j]? = some c0 := ⟨_, ac1 (by omega)⟩
        obtain ⟨c0, hc0⟩ := hget
        obtain ⟨c', e1, e2⟩ := p2 _ c0 hc0
        rw [hrow'] at e1; cases e1
        have hc1 : cs[off + (i' * sz' + j)]? = some c0 := by
          rw [af4, if_pos hlt, ag5] at hc0; exact hc0
        obtain ⟨_, hrel⟩ := h4 _ c0 hc1
        obtain ⟨z1, z2⟩ := zM e2 hrel
        have hCl : off + (i' * sz' + j) < C.size := by rw [h2]; exact (ab2.1 hc1).1
        refine ⟨C.getD (off + (i' * sz' + j)) undef, ?_, z1, z2⟩
        rw [af4, if_pos hlt, ag5, ad5, Array.getElem?_eq_getElem hCl]
        simp [ab8, hCl]
  · rename_i id tot off len sz'
    cases hgb : qK h id tot with
    | none => simp [hgb] at hb
    | some x0 =>
      have hid := vN hgb
      simp only [hgb] at hb
      split at hb
      case isFalse => cases hb
      rename_i hcond
      obtain ⟨rfl, hle⟩ := hcond
      split at hb <;> simp only [ab3, reduceCtorEq] at hb
      rename_i row hrow
      subst hb
      obtain ⟨b, cap, rfl, hnf, htot, hlc, hv⟩ := hx.tG
      obtain ⟨b', cap', C, e, g1, g2, g3, g4, g5, g6, g7, g8, g9⟩ := i.oP id _ hid
      obtain ⟨l0, cap0, k1, _⟩ := hv (by rw [g1]; rfl)
      rw [g1] at k1
      simp only [Value.slice.injEq, ab3, Addr.mk.injEq] at k1
      obtain ⟨⟨rfl, _⟩, _, rfl⟩ := k1
      have hcl : x0.2.length ≤ C.size := by rw [g7, g5]; exact ag8 _ g3
      obtain ⟨p1, p2⟩ := tJ hrow
      have hdl : ((x0.2.drop off).take (len * sz')).length = len * sz' := by rw [aj9, List.length_drop]; omega
      rw [hdl] at p1
      obtain ⟨q1, q2, q3⟩ := uP len sz' row (by omega)
      refine ⟨some ⟨b', off, none⟩, (C.toList.drop off).take (len * sz'), ⟨cap, by rw [q1]⟩, by rw [q1, aj9, List.length_drop, an6]; omega, q2, ?_, ?_⟩
      · intro j u hu
        rw [af4] at hu
        split at hu
        · refine ⟨_, rfl, ?_⟩
          rw [add_plain, cell_of w _ _ g2]
          rw [ag5, ad5] at hu
          exact hu
        · cases hu
      · intro i' j r c hi hj
        have hrow' := q3 i' j r c hi hj
        have hlt : i' * sz' + j < len * sz' := by
          have := (ab2.1 hrow').1; omega
        have hget : ∃ c0, ((x0.2.drop off).take (len * sz'))[i' * sz' + j]? = some c0 := ⟨_, ac1 (by omega)⟩
        obtain ⟨c0, hc0⟩ := hget
        obtain ⟨c', e1, e2⟩ := p2 _ c0 hc0
        rw [hrow'] at e1; cases e1
        have hc1 : x0.2[off + (i' * sz' + j)]? = some c0 := by
          rw [af4, if_pos hlt, ag5] at hc0; exact hc0
        obtain ⟨_, hrel⟩ := g9 _ c0 hc1
        obtain ⟨z1, z2⟩ := zM e2 hrel
        have hCl : off + (i' * sz' + j) < C.size := by have := (ab2.1 hc1).1; omega
        refine ⟨C.getD (off + (i' * sz' + j)) undef, ?_, z1, z2⟩
        rw [af4, if_pos hlt, ag5, ad5, Array.getElem?_eq_getElem hCl]
        simp [ab8, hCl]
  · cases hb
theorem Src.one {sz : Nat} {rows : List (List kP)} {a : Option Addr} {news : List Value} (s : Src G h w sz rows X a news) : ∀ u ∈ news, u.oneCell' = true := by
  intro u hu
  obtain ⟨j, hj⟩ := List.getElem?_of_mem hu
  have hjl : j < rows.length * sz := by rw [← s.len]; exact (ab2.1 hj).1
  have hpos : 0 < sz := by rcases Nat.eq_zero_or_pos sz with h0 | h0; · rw [h0] at hjl; omega
                           · exact h0
  have hrow : j / sz < rows.length := (Nat.div_lt_iff_lt_mul hpos).2 hjl
  have h1 : rows[j / sz]? = some rows[j / sz] := ac1 hrow
  have hl := s.rlen _ (am4 h1)
  have h2 : rows[j / sz][j % sz]? = some (rows[j / sz][j % sz]'(by rw [hl]; exact Nat.mod_lt _ hpos)) := ac1 _
  obtain ⟨u', e1, e2, e3⟩ := s.rel _ _ _ _ h1 h2
  rw [show j / sz * sz + j % sz = j by rw [Nat.mul_comm]; exact Nat.div_add_mod j sz] at e1
  rw [hj] at e1; cases e1
  exact (e2.Cz e3).1
theorem DW {H:Nat→Nat→Option Value}{rows:List (List kP)}{sz b cap:Nat}{all:List Value}(hr:∀r∈rows,r.length=sz) (hc:rows.length≤cap)
  (hH:∀(k:Nat) u,all[k]?=some u→H b k=some u)
  (hrel:∀(i j:Nat) (row:List kP) (c:kP),rows[i]?=some row→row[j]?=some c→∃u,all[i * sz+j]?=some u∧rI H c u∧c.mH=true) :
  rI H (.slice rows .no) (.slice (some ⟨b,0,none⟩) rows.length cap):=by
 refine .slice rows b 0 cap sz (fun k=>all.getD k undef) hr hc ?_ ?_ ?_
 ·intro i j row c h1 h2
  obtain⟨u,e1,_⟩:=hrel i j row c h1 h2
  rw [al7,hH _ u e1,af0,e1]; rfl
 ·intro i j row c h1 h2; obtain⟨u,_,_,e3⟩:=hrel i j row c h1 h2; exact e3
 ·intro i j row c h1 h2
  obtain⟨u,e1,e2,_⟩:=hrel i j row c h1 h2
  rw [af0,e1]; exact e2
theorem Mb {H:Nat→Nat→Option Value}{A B:List (List kP)}{sz:Nat}{xs ys:List Value}(hxl:xs.length=A.length * sz) (hA:∀r∈A,r.length=sz)
  (h1:∀(i j:Nat) (row:List kP) (c:kP),A[i]?=some row→row[j]?=some c→∃u,xs[i * sz+j]?=some u∧rI H c u∧c.mH=true)
  (h2:∀(i j:Nat) (row:List kP) (c:kP),B[i]?=some row→row[j]?=some c→∃u,ys[i * sz+j]?=some u∧rI H c u∧c.mH=true) :
  ∀(i j:Nat) (row:List kP) (c:kP),(A++B)[i]?=some row→row[j]?=some c→∃u,(xs++ys)[i * sz+j]?=some u∧rI H c u∧c.mH=true:=by
 intro i j row c hi hj
 by_cases hlt:i < A.length
 ·rw [af2 hlt] at hi
  obtain⟨u,e1,e2⟩:=h1 i j row c hi hj
  exact⟨u,by rw [af2 (ab2.1 e1).1]; exact e1,e2⟩
 ·rw [ae9 (by omega)] at hi
  obtain⟨u,e1,e2⟩:=h2 _ j row c hi hj
  refine⟨u,?_,e2⟩
  have:A.length * sz≤i * sz:=ag8 _ (by omega)
  rw [ae9 (by omega),hxl,←e1]
  congr 1
  rw [Nat.sub_mul]; omega
theorem Inv.grow (i:Inv G h w) {id n n' sz sz' t t' bb cap':Nat}{all:List Value}{C':Array Value}{e':TypeId}{w':World}(hid:h[id]?=some (.front n sz t)) (hnn:n < n') (hsz:0 < n→sz'=sz)
  (os:w'.os=w.os) (tape:w'.tape=w.tape) (output:w'.output=w.output) (size:w.heap.size≤w'.heap.size)
  (heap:∀k,k < w.heap.size→(k=bb→(G.cur id).ownBlock≠some k)→(k=bb→False)→w'.heap[k]?=w.heap[k]?)
  (hbb:(w.heap.size≤bb)∨(G.cur id).ownBlock=some bb)
  (hC:w'.heap[bb]?=some (.cells C' e' (0,0))) (hcap:n'≤cap') (hmax:cap'≤maxLen) (hCs:C'.size=cap' * sz')
  (hsz0:0 < sz') (hall:all.length=n' * sz') (hC':∀(k:Nat) u,all[k]?=some u→C'[k]?=some u)
  (hold:∀k v,G.H bb k=some v→all[k]?=some v) (htt:t'≠0→e'+1=t') :
  ∃G',Inv G' (h.set id (.front n' sz' t')) w'∧Ext G h w G' (h.set id (.front n' sz' t')) w'∧(∀b k v,G.H b k=some v→G'.H b k=some v) ∧
   (∀(k:Nat) u,all[k]?=some u→G'.H bb k=some u)∧G'.cur id=.slice (some ⟨bb,0,none⟩) n' cap':=by
 let G':Gh:={ G with H:=fun b k=>if b=bb then all[k]? else G.H b k,cur:=fun j=>if j=id then .slice (some ⟨bb,0,none⟩) n' cap' else G.cur j }
 have hmono:∀b k v,G.H b k=some v→G'.H b k=some v:=by
  intro b k v hv
  show(if b=bb then all[k]? else G.H b k)=some v
  by_cases hb:b=bb
  ·subst hb; rw [if_pos rfl]; exact hold k v hv
  ·rw [if_neg hb]; exact hv
 have key:=i.step (G':=G') id (.front n sz t) (.front n' sz' t') hid os tape output size
  (fun k hk hne=>heap k hk (fun _=>hne) (fun e=>by
   subst e
   rcases hbb with h1 | h1
   ·omega
   ·exact hne h1))
  (fun j hj=>rfl) (fun j hj=>if_neg hj) hmono
  (fun b k hb hne=>by
   have:b≠bb:=by
    rintro rfl
    rcases hbb with h1 | h1
    ·omega
    ·exact hne h1
   show(if b=bb then all[k]? else G.H b k)=_
   rw [if_neg this])
  (fun b k v hb hv=>by
   change (if b=bb then all[k]? else G.H b k)=some v at hv
   by_cases hbe:b=bb
   ·subst hbe
    rw [if_pos rfl] at hv
    rw [cell_of w' _ _ hC]; exact hC' k v hv
   ·rw [if_neg hbe] at hv
    have hlt:=i.Ce hv
    rw [World.cell?_of_block (w:=w) (a:=⟨b,k,none⟩) (heap b hlt (fun e=>absurd e hbe) hbe)]
    exact i.ok b k v hv)
  ⟨by omega,fun e=>by omega,rfl,hsz⟩
  (fun _=>.inr ⟨bb,cap',C',e',if_pos rfl,hC,hcap,hmax,hCs,hsz0,fun k hk=>by
   show(if bb=bb then all[k]? else G.H bb k)=none
   rw [if_pos rfl]; exact List.getElem?_eq_none (by omega),htt⟩)
  (fun b hb=>by
   have hb:Value.ownBlock (if id=id then .slice (some ⟨bb,0,none⟩) n' cap' else G.cur id)=some b:=hb
   rw [if_pos rfl] at hb
   simp only [Value.ownBlock,ab3] at hb
   subst hb
   exact hbb)
 exact⟨G',key.1,key.2,hmono,fun k u hu=>by show(if bb=bb then all[k]? else G.H bb k)=some u; rw [if_pos rfl]; exact hu,if_pos rfl⟩
end
end
section
open Go Go.RowKit
section
variable {P:Program}{G:Gh}{h:kT}{w:World}{x y v:kP}{X Y V:Value}
theorem Fi (i:Inv G h w) {rows:List (List kP)}{id n sz:Nat}(hx:lP G h (.slice rows (.own id)) X) {t:Nat}(hid:h[id]?=some (.front n sz t)) (hlen:rows.length=n) :
  X=G.cur id∧(∀r∈rows,r.length=sz)∧((n=0∧G.cur id=.slice none 0 0)∨∃b cap C e,G.cur id=.slice (some ⟨b,0,none⟩) n cap∧w.heap[b]?=some (.cells C e (0,0)) ∧
   n≤cap∧cap≤maxLen∧C.size=cap * sz∧0 < sz∧(∀k,n * sz≤k→G.H b k=none) ∧
   (∀(i' j:Nat) (row:List kP) (c:kP),rows[i']?=some row→row[j]?=some c→∃u,(C.toList.take (n * sz))[i' * sz+j]?=some u∧rI G.H c u∧c.mH=true)∧(t≠0→e+1=t)):=by
 cases hx with
 | p _ _ hp=>cases hp
 | ownv _ _ hp hb =>
  obtain⟨b,h1,_,h3⟩:=hb
  rw [hid] at h1; cases h1; exact absurd rfl (h3 _ _ _)
 | own _ _ n' sz' _ hp hf hn hr hc =>
  rw [hid] at hf
  simp only [ab3,lR.front.injEq] at hf
  obtain⟨rfl,rfl,rfl⟩:=hf
  have hX:=hc hlen
  refine⟨hX,hr,?_⟩
  rcases i.oP id _ hid with h1 | ⟨b,cap,C,e,h1,h2,h3,h4,h5,h50,h6,h7⟩
  ·exact .inl h1
  ·refine .inr ⟨b,cap,C,e,h1,h2,h3,h4,h5,h50,h6,fun i' j row c hi hj=>?_,h7⟩
   rw [hX,h1] at hp
   generalize hV:Value.slice (some ⟨b,0,none⟩) n cap=V0 at hp
   cases hp with
   | slice0 a cap=>simp at hi
   | slice rows b' off cap' sz2 F hr2 hc2 hH hk hV2 =>
    simp only [Value.slice.injEq,ab3,Addr.mk.injEq] at hV
    obtain⟨⟨rfl,rfl,_⟩,hn',rfl⟩:=hV
    have hs:sz2=sz:=by rw [←hr2 row (am4 hi),hr row (am4 hi)]
    subst hs
    have hcell:=i.ok _ _ _ (hH i' j row c hi hj)
    rw [cell_of w _ _ h2,al7] at hcell
    have hlt:i' * sz2+j < n * sz2:=by
     have hi':i' < rows.length:=(ab2.1 hi).1
     have hj':j < sz2:=by rw [←hr2 row (am4 hi)]; exact(ab2.1 hj).1
     calc i' * sz2+j < i' * sz2+sz2:=by omega
      _=(i'+1) * sz2:=by rw [ak3]; omega
      _≤n * sz2:=ag8 _ (by omega)
    refine⟨F (i' * sz2+j),?_,hV2 i' j row c hi hj,hk i' j row c hi hj⟩
    rw [af4,if_pos hlt,ad5]
    exact hcell
theorem vJ {t ty e:TypeId}{ti:TypeInfo}(ht:P.underlying t=some (.slice e)) (hi:P.info? e=some ti) (a b:Option Addr) (n cap c:Nat) (hn:n≤cap) :
  (Builtin.append_ #[t,t] ty #[.slice a n cap,.slice b 0 c]).run P w=.ok (.slice a n cap) w:=by
 cases a <;> cases b <;> simp [Builtin.append_,run_underlying ht,Go.sizeOf,Go.typeInfo,hi,Builtin.lenOf,Builtin.firstCells,hn,loadCells,loadCellsFrom,storeCells,Sem.run_pure]
theorem Inv.DU (i:Inv G h w):∃G',Inv G' (h++[.front 0 0]) w∧Ext G h w G' (h++[.front 0 0]) w∧G'.cur h.length=.slice none 0 0∧G'.H=G.H:=by
 let G':Gh:={ G with cur:=fun j=>if j=h.length then .slice none 0 0 else G.cur j }
 have key:=i.push (G':=G') (ext:=[.front 0 0]) (w':=w) rfl rfl rfl (ac9 _) (fun _ _=>rfl) (fun _ _=>rfl) (fun id hid=>if_neg (by omega)) (fun _ _ _ h=>h) (fun _ _ _=>rfl)
  (fun b k v hb hv=>by have:=i.Ce (b:=b) (k:=k) (v:=v) hv; omega)
  (fun j bl hj m=>by
   cases j with
   | zero=>simp at hj; subst hj; exact .inl ⟨rfl,if_pos rfl⟩
   | succ j=>simp at hj)
  (fun j bl b hj ho=>by
   cases j with
   | zero =>
    simp at hj; subst hj
    have ho:Value.ownBlock (if h.length+0=h.length then .slice none 0 0 else G.cur (h.length+0))=some b:=ho
    rw [if_pos (an8 _)] at ho; cases ho
   | succ j=>simp at hj)
  (fun j j' bl bl' b hj hj' _ _=>by
   have h1:j < 1:=by simpa using (ab2.1 hj).1
   have h2:j' < 1:=by simpa using (ab2.1 hj').1
   omega)
 exact⟨G',key.1,key.2,if_pos rfl,rfl⟩
theorem Sr {G':Gh}(hc:G'.cur h.length=.slice none 0 0):lP G' (h++[.front 0 0]) (.slice [] (.own h.length)) (.slice none 0 0) :=
 .own (t:=0) [] h.length 0 0 _ (.slice0 none 0) (by simp) (ac9 _) (by simp) (fun _=>hc.symm)
theorem M0 {t ty e:TypeId}{sz bytes:Nat}{z r:kP}{h':kT}(i:Inv G h w) (ht:P.underlying t=some (.slice e)) (hn:o0 P e=some sz) (hby:y5 P e=some bytes)
  (hz:sY P e=some z) (hzj:z.pN=false) (hzl:z.cells.length=sz) (hsz:sz≠0) (hb:mN sz bytes h x y=some (r,h')) (hx:lP G h x X) (hy:lP G h y Y) :
  ∃V w' G',(Builtin.append_ #[t,t] ty #[X,Y]).run P w=.ok V w'∧Inv G' h' w'∧Ext G h w G' h' w'∧lP G' h' r V:=by
 obtain⟨ti,hti,hts,htb,Z,hzz,hZs⟩:∃ti,P.info? e=some ti∧ti.size=sz∧ti.bytes=bytes∧∃Z,ti.zero=some Z∧Z.cells.size=sz:=by
  unfold o0 at hn; unfold y5 at hby; unfold sY at hz
  cases hi:P.info? e with
  | none=>simp [hi] at hn
  | some ti =>
   simp [hi] at hn hby hz
   obtain⟨Z,hZ1,hZ2⟩:=hz
   refine⟨ti,rfl,hn,hby,Z,hZ1,?_⟩
   subst hZ2
   rw [←hzl]; exact(xE hzj (wX G h Z)).1.symm
 unfold mN at hb
 split at hb
 ·-- the holder of a token
  rename_i rows id new hnew
  obtain⟨a,news,src⟩:=zW i hnew hy
  obtain⟨capY,hYf⟩:=src.form
  split at hb
  ·rename_i n sz0 hid
   split at hb
   case isFalse=>cases hb
   rename_i hcond
   obtain⟨hlen,hszz,hbytes,hsmall⟩:=hcond
   obtain⟨hX,hrl,hcur⟩:=Fi i hx hid hlen
   split at hb
   ·rename_i hm
    simp only [ab3,af1] at hb
    obtain⟨rfl,rfl⟩:=hb
    refine⟨X,w,G,?_,i,Ext.refl G h w,hx⟩
    rw [hYf,hm]
    rcases hcur with ⟨_,hc⟩ | ⟨b,cap,C,e0,hc,_,hle,_⟩
    ·rw [hX,hc]; exact vJ ht hti none a 0 0 capY (ac9 _)
    ·rw [hX,hc]; exact vJ ht hti _ a n cap capY hle
   ·rename_i hm
    simp only [ab3,af1] at hb
    obtain⟨rfl,rfl⟩:=hb
    have hposn:0 < news.length:=by rw [src.len]; exact Nat.mul_pos (by omega) (by omega)
    obtain⟨ad,had,_⟩:=src.at_ 0 _ (ac1 hposn)
    subst had
    have hnews:∀j u,news[j]?=some u→w.cell? (ad.add j)=some u:=fun j u hu=>by
     obtain⟨ad',e1,e2⟩:=src.at_ j u hu; cases e1; exact e2
    have hone:=src.one
    have hnl:news.length=new.length * ti.size:=by rw [hts]; exact src.len
    have fin:∀(bb cap':Nat) (xs:List Value) (G':Gh),xs.length=n * sz→cap'≥n+new.length→Ed G h G' (h.set id (.front (n+new.length) sz)) →
      (∀(k:Nat) u,(xs++news)[k]?=some u→G'.H bb k=some u)→G'.cur id=.slice (some ⟨bb,0,none⟩) (n+new.length) cap' →
      (∀(i' j:Nat) (row:List kP) (c:kP),rows[i']?=some row→row[j]?=some c→∃u,xs[i' * sz+j]?=some u∧rI G.H c u∧c.mH=true) →
      (∀r∈rows,r.length=sz) →
      lP G' (h.set id (.front (n+new.length) sz)) (.slice (rows++new) (.own id)) (.slice (some ⟨bb,0,none⟩) (n+new.length) cap'):=by
     intro bb cap' xs G' hxl hc hm' hH hcur' hcells hrl'
     have hidl:id < h.length:=(ab2.1 hid).1
     have hrl2:∀r∈rows++new,r.length=sz:=fun r hr=>(List.mem_append.1 hr).elim (hrl' r) (src.rlen r)
     have hlen2:(rows++new).length=n+new.length:=by rw [ac6,hlen]
     refine .own (t:=0) _ id (n+new.length) sz _ ?_ (by simp [hidl]) (by omega) hrl2 (fun _=>hcur'.symm)
     have:=DW (H:=G'.H) (rows:=rows++new) (sz:=sz) (b:=bb) (cap:=cap') (all:=xs++news) hrl2 (by omega) hH
      (Mb (by rw [hlen]; exact hxl) hrl' (fun i' j row c h1 h2=>by obtain⟨u,e1,e2,e3⟩:=hcells i' j row c h1 h2; exact⟨u,e1,e2.mono hm'.hmono,e3⟩)
       (fun i' j row c h1 h2=>by obtain⟨u,e1,e2,e3⟩:=src.rel i' j row c h1 h2; exact⟨u,e1,e2.mono hm'.hmono,e3⟩))
     rwa [hlen2] at this
    rw [hX,hYf]
    rcases hcur with ⟨rfl,hc⟩ | ⟨b,cap,C,e0,hc,hC,hle,hmx,hCs,hs0,hHn,hcells,_⟩
    ·-- nil so far
     rw [hc]
     have hrun:=run_append_nil (P:=P) w t ty e ti Z ht hti hzz ad new.length capY news hnl hnews (by omega) (by omega) (by rw [htb]; rw [al7] at hbytes; omega)
     have hcapg:=grownCap_ge w new.length 0 e
     have hcapm:=grownCap_le_maxLen w new.length 0 e (by simp only [maxLen]; omega)
     obtain⟨G',g1,g2,g3,g4,g5⟩:=i.grow (id:=id) (n:=0) (n':=0+new.length) (t':=0) (sz:=sz0) (sz':=sz) (bb:=w.heap.size) (cap':=grownCap w new.length 0 e) (all:=news)
      (w':=w.drew.alloc (.cells (news.toArray++Builtin.zeroCells Z.cells (grownCap w new.length 0 e - new.length)) e)) hid (by omega) (by omega) rfl rfl rfl (by simp)
      (fun k hk _ _=>oB w.drew _ k hk) (.inl (ac9 _)) (heap_alloc_new w.drew _) (by omega) hcapm
      (by simp only [Array.size_append,List.size_toArray,size_zeroCells,hZs,src.len,←ak3]; congr 1; omega)
      (by omega) (by rw [src.len]; simp) (fun k u hu=>by
       rw [ah0 (by simpa using (ab2.1 hu).1)]; simpa using hu)
      (fun k v hv=>by have:=i.Ce hv; omega) (fun h=>absurd rfl h)
     refine⟨_,_,G',hrun,g1,g2,?_⟩
     have:=fin w.heap.size (grownCap w new.length 0 e) [] G' (by simp) (by omega) g2.toMono (by simpa using g4) g5 (fun i' j row c h1 _=>by
      have:rows=[]:=List.eq_nil_of_length_eq_zero hlen
      subst this; simp at h1) (fun r hr=>by
      have:rows=[]:=List.eq_nil_of_length_eq_zero hlen
      subst this; cases hr)
     simpa using this
    ·have hs:sz0=sz:=by omega
     rw [hc]
     by_cases hroom:n+new.length≤cap
     ·subst hs
      have hfit:n * ti.size+news.length≤C.size:=by rw [hts,src.len,hCs,←ak3]; exact ag8 _ hroom
      have hf:=run_firstCells_some (P:=P) w ti.size new.length ad new.length capY news hnl hnews
      have hst:=run_storeCells_at P b (n * ti.size) e0 news 0 C w hC (by simpa using hfit) hone
      simp only [an8] at hst
      have hrun:(Builtin.append_ #[t,t] ty #[.slice (some ⟨b,0,none⟩) n cap,.slice (some ad) new.length capY]).run P w =
        .ok (.slice (some ⟨b,0,none⟩) (n+new.length) cap) (w.setRow b (C.toList.take (n * ti.size)++news++C.toList.drop (n * ti.size+news.length)).toArray):=by
       simp [Builtin.append_,run_underlying ht,Go.sizeOf,Go.typeInfo,hti,Builtin.lenOf,hroom,hf,Addr.add_lit,hst]
      rw [hts] at hrun hfit
      have hxl:(C.toList.take (n * sz0)).length=n * sz0:=by rw [aj9,an6]; omega
      obtain⟨G',g1,g2,g3,g4,g5⟩:=i.grow (id:=id) (n:=n) (n':=n+new.length) (t':=0) (sz:=sz0) (sz':=sz0) (bb:=b) (cap':=cap) (all:=C.toList.take (n * sz0)++news)
       (C':=(C.toList.take (n * sz0)++news++C.toList.drop (n * sz0+news.length)).toArray) (e':=e0)
       (w':=w.setRow b (C.toList.take (n * sz0)++news++C.toList.drop (n * sz0+news.length)).toArray) hid (by omega) (fun _=>rfl) (by simp) (by simp) (by simp) (by simp)
       (fun k hk _ hne=>setRow_other w b k _ hne) (.inr (by rw [hc]; rfl)) (setRow_heap w b C _ e0 _ hC) hroom hmx
       (by simp; omega) hs0
       (by rw [ac6,hxl,src.len,ak3]) (fun k u hu=>by
        rw [List.getElem?_toArray,af2 (ab2.1 hu).1]; exact hu)
       (fun k v hv=>by
        have hk:k < n * sz0:=Classical.byContradiction fun hk=>by rw [hHn k (by omega)] at hv; cases hv
        have:=i.ok _ _ _ hv
        rw [cell_of w _ _ hC] at this
        rw [af2 (by omega),af4,if_pos hk,ad5]; exact this) (fun h=>absurd rfl h)
      exact⟨_,_,G',hrun,g1,g2,fin b cap _ G' hxl hroom g2.toMono g4 g5 hcells hrl⟩
     ·subst hs
      have hxl:(C.toList.take (n * sz0)).length=n * sz0:=by
       rw [aj9,an6,hCs]
       have:n * sz0≤cap * sz0:=ag8 _ hle
       omega
      have hxc:∀j u,(C.toList.take (n * sz0))[j]?=some u→w.cell? ((⟨b,0,none⟩:Addr).add j)=some u:=by
       intro j u hu
       rw [af4] at hu
       split at hu
       ·rw [add_plain,cell_of w _ _ hC,al7]; rwa [ad5] at hu
       ·cases hu
      have hrun:=run_append_grow (P:=P) w t ty e ti Z ht hti hzz ⟨b,0,none⟩ n cap (C.toList.take (n * sz0)) (by rw [hts]; exact hxl) hxc ad new.length capY news hnl hnews (by omega) (by omega)
       (growslice_fits (by omega) (by rw [htb]; exact hbytes))
      have hcapg:=grownCap_ge w (n+new.length) cap e
      have hcapm:=grownCap_le_maxLen w (n+new.length) cap e (by simp only [maxLen]; omega)
      obtain⟨G',g1,g2,g3,g4,g5⟩:=i.grow (id:=id) (n:=n) (n':=n+new.length) (t':=0) (sz:=sz0) (sz':=sz0) (bb:=w.heap.size) (cap':=grownCap w (n+new.length) cap e) (all:=C.toList.take (n * sz0)++news)
       (w':=w.drew.alloc (.cells ((C.toList.take (n * sz0)).toArray++news.toArray++Builtin.zeroCells Z.cells (grownCap w (n+new.length) cap e - (n+new.length))) e)) hid (by omega)
       (fun _=>rfl) rfl rfl rfl (by simp)
       (fun k hk _ _=>oB w.drew _ k hk) (.inl (ac9 _)) (heap_alloc_new w.drew _) (by omega) hcapm
       (by simp only [Array.size_append,List.size_toArray,size_zeroCells,hZs,src.len,hxl,←ak3]; congr 1; omega)
       (by omega) (by rw [ac6,hxl,src.len,ak3]) (fun k u hu=>by
        have hk:=(ab2.1 hu).1
        rw [ah0 (by simpa using hk),List.append_toArray,List.getElem?_toArray]; exact hu)
       (fun k v hv=>by have:=i.Ce hv; omega) (fun h=>absurd rfl h)
      exact⟨_,_,G',hrun,g1,g2,fin w.heap.size _ _ G' hxl (by omega) g2.toMono g4 g5 hcells hrl⟩
  ·cases hb
 ·-- a nil slice without a token
  rename_i new hnew
  obtain⟨a,news,src⟩:=zW i hnew hy
  obtain⟨capY,hYf⟩:=src.form
  have hX:=hx.Fg
  split at hb
  ·rename_i hm
   simp only [ab3,af1] at hb
   obtain⟨rfl,rfl⟩:=hb
   refine⟨X,w,G,?_,i,Ext.refl G h w,hx⟩
   rw [hYf,hm,hX]
   exact vJ ht hti none a 0 0 capY (ac9 _)
  ·rename_i hm
   split at hb
   case isFalse=>cases hb
   rename_i hcond
   obtain⟨hbytes,hsmall⟩:=hcond
   simp only [ab3,af1] at hb
   obtain⟨rfl,rfl⟩:=hb
   have hposn:0 < news.length:=by rw [src.len]; exact Nat.mul_pos (by omega) (by omega)
   obtain⟨ad,had,_⟩:=src.at_ 0 _ (ac1 hposn)
   subst had
   have hnews:∀j u,news[j]?=some u→w.cell? (ad.add j)=some u:=fun j u hu=>by
    obtain⟨ad',e1,e2⟩:=src.at_ j u hu; cases e1; exact e2
   have hnl:news.length=new.length * ti.size:=by rw [hts]; exact src.len
   obtain⟨G1,i1,x1,hc1,hH1⟩:=i.DU
   rw [hX,hYf]
   have hrun:=run_append_nil (P:=P) w t ty e ti Z ht hti hzz ad new.length capY news hnl hnews (by omega) (by omega) (by rw [htb]; omega)
   have hcapg:=grownCap_ge w new.length 0 e
   have hcapm:=grownCap_le_maxLen w new.length 0 e (by simp only [maxLen]; omega)
   obtain⟨G',g1,g2,g3,g4,g5⟩:=i1.grow (id:=h.length) (n:=0) (n':=new.length) (t:=0) (t':=0) (sz:=0) (sz':=sz) (bb:=w.heap.size) (cap':=grownCap w new.length 0 e) (all:=news)
    (w':=w.drew.alloc (.cells (news.toArray++Builtin.zeroCells Z.cells (grownCap w new.length 0 e - new.length)) e)) (by simp) (by omega) (by omega) rfl rfl rfl (by simp)
    (fun k hk _ _=>oB w.drew _ k hk) (.inl (ac9 _)) (heap_alloc_new w.drew _) (by omega) hcapm
    (by simp only [Array.size_append,List.size_toArray,size_zeroCells,hZs,src.len,←ak3]; congr 1; omega)
    (by omega) src.len (fun k u hu=>by
     rw [ah0 (by simpa using (ab2.1 hu).1)]; simpa using hu)
    (fun k v hv=>by have:=i1.Ce hv; omega) (fun h=>absurd rfl h)
   have hset:(h++[lR.front 0 0]).set h.length (.front new.length sz)=h++[.front new.length sz]:=by simp
   rw [hset] at g1 g2
   refine⟨_,_,G',hrun,g1,x1.trans g2,?_⟩
   have m:=(x1.trans g2).toMono
   refine .own (t:=0) _ h.length new.length sz _ ?_ (by simp) (ac9 _) src.rlen (fun _=>g5.symm)
   exact DW src.rlen hcapg (fun k u hu=>g4 k u hu) (fun i' j row c h1 h2=>by
    obtain⟨u,e1,e2,e3⟩:=src.rel i' j row c h1 h2; exact⟨u,e1,e2.mono m.hmono,e3⟩)
 ·cases hb
end
end
section
open Go Go.RowKit
section
variable {P:Program}{G:Gh}{h:kT}{w:World}{x y v:kP}{X Y V:Value}
theorem Inv.newAt (i:Inv G h w) {id n:Nat}{v p:kP}{h':kT}{Z:Value}(t:TypeId) (hb:xM id n h v=some (p,h')) (hr:lP G h v Z) :
  ∃G',Inv G' h' (w.alloc (.cells Z.cells t))∧Ext G h w G' h' (w.alloc (.cells Z.cells t))∧lP G' h' p (.pointer (some ⟨w.heap.size,0,none⟩))∧Z.cells.size=n:=by
 unfold xM at hb
 simp only [] at hb
 split at hb
 ·rename_i hid
  split at hb
  case isFalse=>cases hb
  rename_i hcond
  obtain⟨hlen,hall⟩:=hcond
  simp only [ab3,af1] at hb
  obtain⟨rfl,rfl⟩:=hb
  obtain⟨c1,c2⟩:=BI hr hall
  have hidl:id < h.length:=(ab2.1 hid).1
  let G':Gh:={ G with oP:=fun j=>if j=id then w.heap.size else G.oP j }
  have key:=i.step (G':=G') (w':=w.alloc (.cells Z.cells t)) id .free (.cells v.cells) hid rfl rfl rfl (by simp) (fun k hk _=>oB w _ k hk) (fun j hj=>if_neg hj) (fun _ _=>rfl)
   (fun _ _ _ hh=>hh) (fun _ _ _ _=>rfl) (fun b k v hb hv=>by
    rcases hb with hb | hb
    ·have:=i.Ce (b:=b) (k:=k) (v:=v) hv; omega
    ·cases hb) trivial
   (fun m=>⟨Z.cells,t,by show(w.alloc _).heap[if id=id then w.heap.size else _]?=_; rw [if_pos rfl]; exact heap_alloc_new w _,by omega,
    fun k=>by show G.H (if id=id then w.heap.size else _) k=none; rw [if_pos rfl]; exact i.FI (ac9 _),fun j u hu=>⟨(c2 j u hu).1,(c2 j u hu).2.mono m⟩⟩)
   (fun b hb=>by
    have hb:some (if id=id then w.heap.size else G.oP id)=some b:=hb
    rw [if_pos rfl] at hb; cases hb; exact .inl (ac9 _))
  refine⟨G',key.1,key.2,?_,by omega⟩
  have hp:=lP.ptr (G:=G') (h:=h.set id (.cells v.cells)) id 0 ⟨.cells v.cells,by simp [hidl],by simp⟩
  have he:G'.oP id=w.heap.size:=if_pos rfl
  rwa [he] at hp
 ·cases hb
theorem Inv.acT (i:Inv G h w) {id len sz:Nat}{cs row:List kP}{C:Array Value}(e:TypeId) (hid:h[id]?=some .free) (hc:Jy G h cs C) (hp:oC cs=some row) (hl:C.size=len * sz) (hmax:len≤maxLen) (hsz0:0 < sz) :
  ∃G',Inv G' (h.set id (.front len sz)) (w.alloc (.cells C e))∧Ext G h w G' (h.set id (.front len sz)) (w.alloc (.cells C e)) ∧
   lP G' (h.set id (.front len sz)) (.slice (rowsOf len sz row) (.own id)) (.slice (some ⟨w.heap.size,0,none⟩) len len):=by
 obtain⟨p1,p2⟩:=tJ hp
 obtain⟨c1,c2⟩:=hc
 have hidl:id < h.length:=(ab2.1 hid).1
 have hHlt:∀{b k v},G.H b k=some v→b≠w.heap.size:=fun hv=>by have:=i.Ce hv; omega
 have hmono:∀b k v,G.H b k=some v→(G.tW id w.heap.size C (.slice (some ⟨w.heap.size,0,none⟩) len len)).H b k=some v:=by
  intro b k v hv; simp only [Gh.tW,if_neg (hHlt hv),hv]
 have key:=i.step (G':=G.tW id w.heap.size C (.slice (some ⟨w.heap.size,0,none⟩) len len)) (w':=w.alloc (.cells C e)) id .free (.front len sz) hid
  rfl rfl rfl (by simp) (fun k hk _=>oB w _ k hk) (fun j hj=>rfl) (fun j hj=>by simp only [Gh.tW]; rw [if_neg hj]) hmono
  (fun b k hb _=>by simp only [Gh.tW]; rw [if_neg (by omega)])
  (fun b k v _ hv=>by
   by_cases hbe:b=w.heap.size
   ·subst hbe
    simp only [Gh.tW,if_true] at hv
    rw [cell_of _ _ _ (heap_alloc_new w _),hv]
   ·simp only [Gh.tW,if_neg hbe] at hv
    have hlt:=i.Ce hv
    rw [World.cell?_of_block (w:=w) (a:=⟨b,k,none⟩) (oB w _ b hlt)]
    exact i.ok b k v hv) trivial
  (fun m=>.inr ⟨w.heap.size,len,C,e,by simp [Gh.tW],heap_alloc_new w _,ac9 _,hmax,hl,hsz0,fun k hk=>by
    simp only [Gh.tW,if_true]
    exact Array.getElem?_eq_none (by omega),fun h=>absurd rfl h⟩)
  (fun b ho=>by simp only [nJ,Gh.tW,if_true,Value.ownBlock,ab3] at ho; exact .inl (by omega))
 refine⟨_,key.1,key.2,?_⟩
 have hlen:(rowsOf len sz row).length=len:=(uP len sz row (by omega)).1
 refine .own (t:=0) _ id len sz _ ?_ (by simp [hidl]) (by omega) (uP len sz row (by omega)).2.1 (fun _=>by simp [Gh.tW])
 refine Dm (F:=fun j=>C.getD j undef) (by omega) (ac9 _) fun j c hj hlt=>?_
 have hjl:j < C.size:=by omega
 obtain⟨c0,hc0⟩:∃c0,cs[j]?=some c0:=⟨cs[j]'(by omega),ac1 (by omega)⟩
 obtain⟨c',e1,e2⟩:=p2 j c0 hc0
 rw [hj] at e1; cases e1
 obtain⟨q1,q2⟩:=zM e2 (c2 j c0 hc0)
 refine⟨?_,q1.mono hmono,q2⟩
 simp [Gh.tW,ab8,hjl]
theorem Fs {t e:TypeId}{id len sz:Nat}{z r:kP}{h':kT}{parts:Array (Nat×Operand)}{f:Operand→kP}{F:Operand→Value}
  (i:Inv G h w) (ht:P.underlying t=some (.slice e)) (hz:sY P e=some z) (hn:o0 P e=some sz) (hsz:sz≠0) (hle:len * sz≤16777216) (hf:∀o,lP G h (f o) (F o)) (hzj:z.pN=false)
  (hb:qY id len sz z.cells (parts.toList.map fun p=>(p.1,f p.2)) h=some (r,h')) :
  ∃V w' G',(Instr.buildSlice t len (parts.map fun(i,x)=>(i,F x))).run P w=.ok V w'∧Inv G' h' w'∧Ext G h w G' h' w'∧lP G' h' r V:=by
 unfold qY at hb
 split at hb
 ·rename_i rows hid hrows
  simp only [ab3,af1] at hb
  obtain⟨rfl,rfl⟩:=hb
  obtain⟨cs,row,C,h1,rfl,h3,h4,h5,h6⟩:=BU (G:=G) (h:=h) (w:=w) ht hz hn hsz hle hf hzj hrows
  obtain⟨G',g1,g2,g3⟩:=i.acT e hid h3 h1 h4 h5 (by omega)
  exact⟨_,_,G',h6,g1,g2,g3⟩
 ·cases hb
theorem OW {t:TypeId}{id n:Nat}{p:kP}{h':kT}(i:Inv G h w) (hb:xM id n h x=some (p,h')) (hx:lP G h x X) :
  ∃V w' G',(Instr.box t X).run P w=.ok V w'∧Inv G' h' w'∧Ext G h w G' h' w'∧lP G' h' p V:=by
 obtain⟨G',h1,h2,h3,_⟩:=i.newAt t hb hx
 exact⟨_,_,G',by simp [Instr.box,newVar,newRow,Sem.run_pure],h1,h2,h3⟩
theorem Ku {t:TypeId}{id n:Nat}{z p:kP}{h':kT}(i:Inv G h w) (hz:sY P t=some z) (hb:xM id n h z=some (p,h')) :
  ∃V w' G',(Instr.alloc t true (.tuple #[])).run P w=.ok V w'∧Inv G' h' w'∧Ext G h w G' h' w'∧lP G' h' p V:=by
 obtain⟨Z,hz1,hz2⟩:=sI (P:=P) (G:=G) (h:=h) (w:=w) hz
 obtain⟨G',h1,h2,h3,_⟩:=i.newAt t hb hz2
 refine⟨_,_,G',?_,h1,h2,h3⟩
 simp [Instr.alloc,hz1,newVar,newRow,Sem.run_pure]
end
end
section
open Go Go.RowKit
section
variable {P:Program}{G:Gh}{h:kT}{w:World}{x y v:kP}{X Y V:Value}
theorem Inv.acS (i:Inv G h w) {cs:List kP}{C:Array Value}(e:TypeId) (hc:Jy G h cs C) (hk:∀u∈cs,u.mH=true) :
  ∃G',Inv G' (h++[.cells cs]) (w.alloc (.cells C e))∧Ext G h w G' (h++[.cells cs]) (w.alloc (.cells C e))∧G'.oP h.length=w.heap.size:=by
 obtain⟨c1,c2⟩:=hc
 refine⟨{ G with oP:=fun j=>if j=h.length then w.heap.size else G.oP j },?_⟩
 have key:=i.push (G':={ G with oP:=fun j=>if j=h.length then w.heap.size else G.oP j }) (ext:=[.cells cs]) (w':=w.alloc (.cells C e))
  rfl rfl rfl (by simp) (fun k hk=>oB w _ k hk) (fun id hid=>by show(if id=h.length then _ else _)=_; rw [if_neg (by omega)]) (fun id hid=>rfl) (fun _ _ _ hh=>hh) (fun _ _ _=>rfl)
  (fun b k v hb hv=>by have:=i.Ce (b:=b) (k:=k) (v:=v) hv; omega)
  (fun j bl hj m=>by
   cases j with
   | zero =>
    simp at hj; subst hj
    refine⟨C,e,by simp only [an8,if_true]; exact heap_alloc_new w _,by omega,fun k=>by simp only [an8,if_true]; exact i.FI (ac9 _),fun j u hu=>?_⟩
    exact⟨hk u (am4 hu),(c2 j u hu).mono m⟩
   | succ j=>simp at hj)
  (fun j bl b hj ho=>by
   cases j with
   | zero=>simp at hj; subst hj; simp only [nJ,an8,if_true,ab3] at ho; omega
   | succ j=>simp at hj)
  (fun j j' bl bl' b hj hj' _ _=>by
   have h1:j < 1:=by simpa using (ab2.1 hj).1
   have h2:j' < 1:=by simpa using (ab2.1 hj').1
   omega)
 exact⟨key.1,key.2,by simp⟩
theorem HZ {t e:TypeId}{sz by_:Nat}{z r:kP}{h':kT}(i:Inv G h w) (ht:P.underlying t=some (.slice e)) (hn:o0 P e=some sz) (hby:y5 P e=some by_) (hz:sY P e=some z)
  (hj:z.pN=false) (hl:z.cells.length=sz) (hk:z.cells.all kP.mH=true) (hb:BS sz by_ z.cells x h=some (r,h')) {k k':IntKind}{n:Int}(hxn:x=.int k n) (hX:X=.int k n) (hY:Y=.int k' n) :
  ∃V w' G',(Instr.makeSlice t X Y).run P w=.ok V w'∧Inv G' h' w'∧Ext G h w G' h' w'∧lP G' h' r V:=by
 subst hxn; subst hX; subst hY
 simp only [BS] at hb
 split at hb
 case isFalse=>cases hb
 rename_i hcond
 obtain⟨hn0,hbytes,hmax⟩:=hcond
 simp only [ab3,af1] at hb
 obtain⟨rfl,rfl⟩:=hb
 obtain⟨m,rfl⟩:=Int.eq_ofNat_of_zero_le hn0
 simp only [Int.toNat_natCast] at *
 unfold o0 at hn; unfold y5 at hby; unfold sY at hz
 cases hi:P.info? e with
 | none=>simp [hi] at hn
 | some ti =>
  simp only [hi,Option.map_some,ab3,Option.bind_some,ac5] at hn hby hz
  obtain⟨Z,hZ,hz⟩:=hz
  have hrun:=run_make (P:=P) w t e ti Z ht hi hZ k k' m m hn0 (Int.le_refl _) (by
   rw [hby]
   have:((m * by_:Nat):Int)≤140737488355328:=by omega
   rw [Int.natCast_mul] at this
   rw [Int.mul_comm]; omega) (by omega)
  have hrz:lP G h z Z:=by rw [←hz]; exact wX G h Z
  have hcz:=xE hj hrz
  have hrc:=Ai (G:=G) (h:=h) hcz m
  have hmade:madeCells Z.cells ((m:Int).toNat * ti.size)=(Array.range (m * Z.cells.size)).map fun j=>Z.cells[j % Z.cells.size]! := by
   rw [hn,←hl,hcz.1]; simp [madeCells]
  rw [hmade] at hrun
  obtain⟨G',h1,h2,h3⟩:=i.acS e hrc (fun u hu=>by
   obtain⟨l,hl1,hl2⟩:=List.mem_flatten.1 hu
   rw [(List.mem_replicate.1 hl1).2] at hl2
   exact ag3.1 hk u hl2)
  refine⟨_,_,G',hrun,h1,h2,?_⟩
  have:=lP.mslice (G:=G') (h:=h++[.cells (ah7 m z.cells).flatten]) h.length 0 m sz m ⟨.cells (ah7 m z.cells).flatten,by simp,by simp⟩ (ac9 _)
  rw [h3] at this
  simpa using this
theorem Inv.at0 (i:Inv G h w):∃G',Inv G' (h++[.map []]) (w.alloc (.map #[] 0))∧Ext G h w G' (h++[.map []]) (w.alloc (.map #[] 0))∧lP G' (h++[.map []]) (.map h.length) (.map (some w.heap.size)):=by
 refine⟨{ G with oP:=fun j=>if j=h.length then w.heap.size else G.oP j },?_⟩
 have key:=i.push (G':={ G with oP:=fun j=>if j=h.length then w.heap.size else G.oP j }) (ext:=[.map []]) (w':=w.alloc (.map #[] 0))
  rfl rfl rfl (by simp) (fun k hk=>oB w _ k hk) (fun id hid=>by show(if id=h.length then _ else _)=_; rw [if_neg (by omega)]) (fun id hid=>rfl) (fun _ _ _ hh=>hh) (fun _ _ _=>rfl)
  (fun b k v hb hv=>by have:=i.Ce (b:=b) (k:=k) (v:=v) hv; omega)
  (fun j bl hj m=>by
   cases j with
   | zero =>
    simp at hj; subst hj
    refine⟨#[],0,by simp only [an8,if_true]; exact(MapKept.heap_alloc w _).1,rfl,fun k=>by simp only [an8,if_true]; exact i.FI (ac9 _),by simp,MapKept.stamped_empty 0⟩
   | succ j=>simp at hj)
  (fun j bl b hj ho=>by
   cases j with
   | zero=>simp at hj; subst hj; simp only [nJ,an8,if_true,ab3] at ho; omega
   | succ j=>simp at hj)
  (fun j j' bl bl' b hj hj' _ _=>by
   have h1:j < 1:=by simpa using (ab2.1 hj).1
   have h2:j' < 1:=by simpa using (ab2.1 hj').1
   omega)
 refine⟨key.1,key.2,?_⟩
 have:=lP.map (G:={ G with oP:=fun j=>if j=h.length then w.heap.size else G.oP j }) (h:=h++[.map []]) h.length ⟨.map [],by simp,by simp⟩
 simpa using this
def Zd (G:Gh) (h:kT) (es:List (kP×kP)) (E:List MapEntry):Prop :=
 E.length=es.length∧∀(i:Nat) (kv:kP×kP),es[i]?=some kv→∃m,E[i]?=some m∧HX kv.1=true∧rI G.H kv.1 m.key∧lP G h kv.2 m.val
theorem Lk {H:Nat→Nat→Option Value}{d:TypeDesc}{k:kP}{K:Value}(hf:qR d k=true) (hr:rI H k K):MapKept.IsKey d K:=by
 cases d <;> cases k <;> simp [qR] at hf <;> cases hr <;> simp [MapKept.IsKey,hf]
theorem WN {H:Nat→Nat→Option Value}{d:TypeDesc}{k k':kP}{K K':Value}{b:Bool}(hf:qR d k=true) (hr:rI H k K) (hr':rI H k' K') (he:Q8 k k'=some b) :
  Instr.sameNow d K K'=some b∧(b=true→K'=K∧k'=k)∧(b=false→K'≠K):=by
 unfold Q8 at he
 split at he
 ·rename_i i1 a i2 c
  split at he
  ·rename_i hii
   subst hii
   cases he
   cases hr; cases hr'
   cases d <;> simp [qR] at hf
   exact⟨by simp [Instr.sameNow],fun hb=>by simp at hb; subst hb; exact⟨rfl,rfl⟩,fun hb=>by simp at hb; simpa using fun e=>hb e.symm⟩
  ·cases he
 ·rename_i a c
  cases he
  cases hr; cases hr'
  cases d <;> simp [qR] at hf
  exact⟨by simp [Instr.sameNow],fun hb=>by simp at hb; subst hb; exact⟨rfl,rfl⟩,fun hb=>by simp at hb; simpa using fun e=>hb e.symm⟩
 ·rename_i a c
  cases he
  cases hr; cases hr'
  cases d <;> simp [qR] at hf
  have:((⟨a.toArray⟩:ByteArray) == ⟨c.toArray⟩)=(a == c):=by
   cases h:(a == c) with
   | true=>simp at h; subst h; exact(MapKept.bytes_beq _ _).2 rfl
   | false =>
    cases h2:((⟨a.toArray⟩:ByteArray) == ⟨c.toArray⟩) with
    | false=>rfl
    | true =>
     have:=(MapKept.bytes_beq _ _).1 h2
     simp at this; subst this; simp at h
  exact⟨by simp only [Instr.sameNow,this],fun hb=>by simp at hb; subst hb; exact⟨rfl,rfl⟩,fun hb=>by simp at hb; simpa using fun e=>hb e.symm⟩
 ·cases he
theorem BP {d:TypeDesc}{k:kP}{K:Value}(hf:qR d k=true) (hr:rI G.H k K):∀(es:List (kP×kP)) (E:List MapEntry) (n:Nat) (r:Option kP),Zd G h es E→D4 k es=some r →
  (r=none∧Instr.findNow d K E n=some none∧(∀v,Dv k v es=es++[(k,v)])∧(∀x∈E,x.key≠K)∧Du k es=es) ∨
  ∃j m v0,r=some v0∧Instr.findNow d K E n=some (some (n+j,m.val))∧E[j]?=some m∧m.key=K∧es[j]?=some (k,v0)∧lP G h v0 m.val∧(∀v,Dv k v es=es.set j (k,v))∧Du k es=es.eraseIdx j
 | [],[],n,r,_,hfi=>by simp [D4] at hfi; subst hfi; exact .inl ⟨rfl,rfl,fun v=>rfl,by simp,rfl⟩
 | [],_::_,_,_,hE,_=>by have:=hE.1; simp at this
 | _::_,[],_,_,hE,_=>by have:=hE.1; simp at this
 | (k',v')::es,m::E,n,r,hE,hfi=>by
  obtain⟨m',h1,h2,h3,h4⟩:=hE.2 0 (k',v') rfl
  simp at h1; subst h1
  simp only [D4] at hfi
  cases ha:Q8 k k' with
  | none=>rw [ha] at hfi; cases hfi
  | some b =>
   obtain⟨s1,s2,s3⟩:=WN hf hr h3 ha
   cases b with
   | true =>
    rw [ha] at hfi; simp at hfi; subst hfi
    obtain⟨e1,e2⟩:=s2 rfl
    subst e2
    exact .inr ⟨0,m,v',rfl,by simp [Instr.findNow,s1],rfl,e1,rfl,h4,fun v=>by simp [Dv,ha],by simp [Du,ha]⟩
   | false =>
    rw [ha] at hfi; simp only [] at hfi
    have hE':Zd G h es E:=⟨by have:=hE.1; simpa using this,fun i kv hkv=>by simpa using hE.2 (i+1) kv (by simpa using hkv)⟩
    rcases BP hf hr es E (n+1) r hE' hfi with ⟨e1,e2,e3,e4,e5⟩ | ⟨j,m',v0,e1,e2,e3,e4,e5,e6,e7,e8⟩
    ·exact .inl ⟨e1,by simp [Instr.findNow,s1,e2],fun v=>by simp [Dv,ha,e3],fun x hx=>by
      rcases List.mem_cons.1 hx with rfl | hx
      ·exact s3 rfl
      ·exact e4 x hx,by simp [Du,ha,e5]⟩
    ·exact .inr ⟨j+1,m',v0,e1,by simp [Instr.findNow,s1,e2]; omega,by simpa using e3,e4,by simpa using e5,e6,fun v=>by simp [Dv,ha,e7],by simp [Du,ha,e8]⟩
theorem M7 {t kt e:TypeId}{d:TypeDesc}{z:kP}{ok:Bool}(i:Inv G h w) (ht:P.underlying t=some (.map kt e)) (hd:P.underlying kt=some d) (hz:sY P e=some z) (hf:qR d y=true)
  (hb:AN z ok h x y=some v) (hx:lP G h x X) (hy:lP G h y Y):∃V,(Instr.lookup t X Y ok).run P w=.ok V w∧lP G h v V:=by
 obtain⟨Z,hz1,hz2⟩:=sI (P:=P) (G:=G) (h:=h) (w:=w) hz
 have hyp:rI G.H y Y:=by
  cases d <;> cases y <;> simp [qR] at hf <;> (cases hy with | p _ _ hp=>exact hp)
 have hkey:=Lk hf hyp
 have fin:∀(es:List (kP×kP)) (E:Array MapEntry),Zd G h es E.toList→(match D4 y es with
   | some (some v)=>some (bif ok then kP.tuple [v,.bool true] else v)
   | some none=>some (bif ok then kP.tuple [z,.bool false] else z)
   | none=>none)=some v →
   ∃V,(do
    Instr.checkKey E.isEmpty 10000 kt Y
    let (v,ok') ←match ←Instr.findKey kt Y E.toList with
     | some (_,v)=>pure (v,true)
     | none=>pure (←zeroValue e,false)
    pure (if ok then Value.tuple #[v,.bool ok'] else v):Sem Value).run P w=.ok V w∧lP G h v V:=by
  intro es E hE hv
  have two:∀{a:kP}{A:Value}(b:Bool),lP G h a A→lP G h (bif ok then kP.tuple [a,.bool b] else a) (if ok then Value.tuple #[A,.bool b] else A):=by
   intro a A b ha
   cases ok with
   | false=>exact ha
   | true =>
    refine .tuple _ _ rfl fun j u hu=>?_
    match j with
    | 0=>simp at hu; subst hu; exact ha
    | 1=>simp at hu; subst hu; exact .p _ _ (.bool _)
    | j+2=>simp at hu
  have hck:=MapKept.run_checkKey (P:=P) (w:=w) hd hkey E.isEmpty 9999
  split at hv
  ·rename_i v0 hfi
   cases hv
   rcases BP hf hyp es E.toList 0 _ hE hfi with ⟨e1,_⟩ | ⟨j,m,v1,e1,e2,_,_,_,e6,_⟩
   ·cases e1
   ·cases e1
    have hfk:=MapKept.run_findKey (w:=w) hd e2
    exact⟨_,by simp only [Sem.run_bind,hck,Result.andThen_ok,hfk,Sem.run_pure],two true e6⟩
  ·rename_i hfi
   cases hv
   rcases BP hf hyp es E.toList 0 _ hE hfi with ⟨_,e2,_⟩ | ⟨j,m,v1,e1,_⟩
   ·have hfk:=MapKept.run_findKey (w:=w) hd e2
    exact⟨_,by simp only [Sem.run_bind,hck,Result.andThen_ok,hfk,hz1,Sem.run_pure],two false hz2⟩
   ·cases e1
  ·cases hv
 unfold AN DG at hb
 split at hb
 ·rename_i es hes
  split at hes
  ·cases hes
   have hX:=hx.Gd
   subst hX
   obtain⟨V,h1,h2⟩:=fin [] #[] ⟨rfl,by simp⟩ hb
   refine⟨V,?_,h2⟩
   rw [←h1]
   simp only [Instr.lookup,Sem.run_bind,run_underlying ht,Result.andThen_ok,Sem.run_pure]
   rfl
  ·rename_i id
   split at hes
   ·rename_i es' hid
    cases hes
    obtain⟨hX,_⟩:=hx.Hd
    subst hX
    obtain⟨E,clock,g1,g2,g3,g4,g5⟩:=i.oP id _ hid
    obtain⟨V,h1,h2⟩:=fin _ E ⟨by simpa using g2,fun j kv hkv=>by simpa using g4 j kv hkv⟩ hb
    refine⟨V,?_,h2⟩
    rw [←h1]
    simp only [Instr.lookup,Sem.run_bind,run_underlying ht,Result.andThen_ok,Sem.run_pure,MapKept.run_getObj_map g1]
    rfl
   ·cases hes
  ·cases hes
 ·cases hb
theorem Inv.mapStep {id clock clock':Nat}{es es':List (kP×kP)}{E E':Array MapEntry}(i:Inv G h w) (hid:h[id]?=some (.map es)) (g1:w.heap[G.oP id]?=some (.map E clock)) (g3:∀k,G.H (G.oP id) k=none)
  (hs:E'.size=es'.length) (hr:∀(j:Nat) (kv:kP×kP),es'[j]?=some kv→∃m,E'[j]?=some m∧HX kv.1=true∧rI G.H kv.1 m.key∧lP G h kv.2 m.val) (hst:MapKept.Stamped E' clock') :
  Inv G (h.set id (.map es')) { w with heap:=w.heap.setIfInBounds (G.oP id) (.map E' clock') }∧Ext G h w G (h.set id (.map es')) { w with heap:=w.heap.setIfInBounds (G.oP id) (.map E' clock') }:=by
 obtain⟨s1,s2⟩:=MapKept.heap_set (w:=w) (o':=.map E' clock') g1
 refine i.step id (.map es) (.map es') hid rfl rfl rfl (by simp) (fun k _ hk=>s2 k (fun e=>hk (by simp [nJ,e]))) (fun _ _=>rfl) (fun _ _=>rfl) (fun _ _ _ hh=>hh) (fun _ _ _ _=>rfl) ?_ ⟨rfl,rfl⟩ ?_ ?_
 ·intro b k v hb hv
  rcases hb with hb | hb
  ·have:=i.Ce hv; omega
  ·simp only [nJ,ab3] at hb
   subst hb
   rw [g3] at hv; cases hv
 ·intro m
  exact⟨E',clock',s1,hs,g3,fun j kv hkv=>by
   obtain⟨mm,a1,a2,a3,a4⟩:=hr j kv hkv
   exact⟨mm,a1,a2,a3,a4.mono m⟩,hst⟩
 ·intro b hb
  exact .inr hb
theorem M9 {t kt e:TypeId}{d:TypeDesc}{h':kT}(i:Inv G h w) (ht:P.underlying t=some (.map kt e)) (hd:P.underlying kt=some d) (hf:qR d y=true)
  (hb:JM h x y v=some h') (hx:lP G h x X) (hy:lP G h y Y) (hv:lP G h v V):∃w',(Instr.mapUpdate t X Y V).run P w=.ok () w'∧Inv G h' w'∧Ext G h w G h' w':=by
 have hyp:rI G.H y Y:=by
  cases d <;> cases y <;> simp [qR] at hf <;> (cases hy with | p _ _ hp=>exact hp)
 have hkey:=Lk hf hyp
 have hyok:HX y=true:=by cases d <;> cases y <;> simp [qR] at hf <;> rfl
 unfold JM at hb
 split at hb
 ·rename_i id
  split at hb
  ·rename_i es hid
   obtain⟨hX,_⟩:=hx.Hd
   subst hX
   obtain⟨E,clock,g1,g2,g3,g4,g5⟩:=i.oP id _ hid
   have hE:Zd G h es E.toList:=⟨by simpa using g2,fun j kv hkv=>by simpa using g4 j kv hkv⟩
   have hck:=MapKept.run_checkKey (P:=P) (w:=w) hd hkey false 9999
   have hidl:id < h.length:=(ab2.1 hid).1
   split at hb
   ·rename_i r hfi
    cases hb
    rcases BP hf hyp es E.toList 0 _ hE hfi with ⟨_,e2,e3,e4,_⟩ | ⟨j,m,v0,_,e2,e4,e5,e6,e7,e8,_⟩
    ·have hfk:=MapKept.run_findKey (w:=w) hd e2
     rw [e3]
     refine⟨_,?_,i.mapStep (es':=es++[(y,v)]) (E':=E.push { key:=Y,val:=V,born:=clock }) (clock':=clock+1) hid g1 g3 (by simp [g2]) (fun j kv hkv=>?_) (MapKept.stamped_push g5 e4)⟩
     ·simp only [Instr.mapUpdate,Sem.run_bind,run_underlying ht,Result.andThen_ok,MapKept.run_getObj_map g1,hck,hfk]
      exact MapKept.run_setObj_map _ g1
     ·by_cases hj:j < es.length
      ·rw [af2 hj] at hkv
       obtain⟨mm,a1,a2⟩:=g4 j kv hkv
       exact⟨mm,by rw [Array.getElem?_push,if_neg (by omega)]; exact a1,a2⟩
      ·rw [ae9 (by omega)] at hkv
       have:j - es.length=0:=by
        by_cases h0:j - es.length=0
        ·exact h0
        ·rw [List.getElem?_eq_none (by simp; omega)] at hkv; cases hkv
       rw [this] at hkv
       simp at hkv; subst hkv
       have:j=E.size:=by omega
       subst this
       exact⟨{ key:=Y,val:=V,born:=clock },by simp,hyok,hyp,hv⟩
    ·have hfk:=MapKept.run_findKey (w:=w) hd e2
     rw [e8]
     have hEj:E[j]?=some m:=by simpa using e4
     have hsame:Instr.sameBits 10000 m.key Y=true:=by
      rw [e5]
      cases d <;> cases y <;> simp [qR] at hf <;> cases hyp <;> simp [Instr.sameBits]
      exact(MapKept.bytes_beq _ _).2 rfl
     refine⟨_,?_,i.mapStep (es':=es.set j (y,v)) (E':=E.modify j fun e=>{ e with key:=Y,val:=V }) (clock':=clock) hid g1 g3 (by simp [g2]) (fun l kv hkv=>?_) (MapKept.stamped_modify g5 j _ (fun _ _=>rfl) fun e _ he=>by rw [hEj] at he; cases he; exact e5.symm)⟩
     ·simp only [Instr.mapUpdate,Sem.run_bind,run_underlying ht,Result.andThen_ok,MapKept.run_getObj_map g1,hck,hfk,al7,hEj,Option.map_some,Option.getD_some,Instr.keyThatStays,hsame,if_true,Sem.run_pure]
      exact MapKept.run_setObj_map _ g1
     ·rw [List.getElem?_set] at hkv
      rw [Array.getElem?_modify]
      by_cases hjl:j=l
      ·subst hjl
       have hlt:j < es.length:=(ab2.1 e6).1
       simp [hlt] at hkv
       subst hkv
       exact⟨{ m with key:=Y,val:=V },by simp [hEj],hyok,hyp,hv⟩
      ·rw [if_neg hjl] at hkv
       rw [if_neg hjl]
       exact g4 l kv hkv
   ·cases hb
  ·cases hb
 ·cases hb
theorem M8 {t kt e ty:TypeId}{d:TypeDesc}{h':kT}(i:Inv G h w) (ht:P.underlying t=some (.map kt e)) (hd:P.underlying kt=some d) (hf:qR d y=true)
  (hb:O5 h x y=some h') (hx:lP G h x X) (hy:lP G h y Y) {ts:Array TypeId}(hts:ts[0]?=some t):∃w',(Builtin.delete_ ts ty #[X,Y]).run P w=.ok (.tuple #[]) w'∧Inv G h' w'∧Ext G h w G h' w':=by
 have hyp:rI G.H y Y:=by
  cases d <;> cases y <;> simp [qR] at hf <;> (cases hy with | p _ _ hp=>exact hp)
 have hkey:=Lk hf hyp
 have hck:=fun e=>MapKept.run_checkKey (P:=P) (w:=w) hd hkey e 9999
 unfold O5 at hb
 split at hb
 ·-- a nil map
  split at hb
  ·cases hb
   have hX:=hx.Gd
   subst hX
   exact⟨w,by simp [Builtin.delete_,hts,run_underlying ht,hck,Sem.run_pure],i,Ext.refl G _ w⟩
  ·cases hb
 ·rename_i id
  split at hb
  ·rename_i es hid
   split at hb
   case isFalse=>cases hb
   rename_i hcond
   cases hb
   obtain⟨hX,_⟩:=hx.Hd
   subst hX
   obtain⟨E,clock,g1,g2,g3,g4,g5⟩:=i.oP id _ hid
   have hE:Zd G h es E.toList:=⟨by simpa using g2,fun j kv hkv=>by simpa using g4 j kv hkv⟩
   obtain⟨r,hfi⟩:=Option.isSome_iff_exists.1 hcond.2
   rcases BP hf hyp es E.toList 0 _ hE hfi with ⟨_,e2,_,_,e5⟩ | ⟨j,m,v0,_,e2,e4,e5,e6,e7,_,e9⟩
   ·have hfk:=MapKept.run_findKey (w:=w) hd e2
    rw [e5]
    obtain⟨s1,s2⟩:=i.mapStep (es':=es) (E':=E) (clock':=clock) hid g1 g3 g2 g4 g5
    exact⟨_,by simp [Builtin.delete_,hts,run_underlying ht,MapKept.run_getObj_map g1,hck,hfk,MapKept.run_setObj_map _ g1,Sem.run_pure],s1,s2⟩
   ·have hfk:=MapKept.run_findKey (w:=w) hd e2
    rw [e9]
    have hjl:j < es.length:=(ab2.1 e6).1
    have hjE:j < E.size:=by omega
    have her:(E.eraseIdxIfInBounds j).toList=E.toList.eraseIdx j:=by
     rw [Array.eraseIdxIfInBounds,dif_pos hjE]; simp
    obtain⟨s1,s2⟩:=i.mapStep (es':=es.eraseIdx j) (E':=E.eraseIdxIfInBounds j) (clock':=clock) hid g1 g3
     (by rw [←an6,her,List.length_eraseIdx,List.length_eraseIdx]; simp [g2])
     (fun l kv hkv=>by
      rw [←ad5,her,List.getElem?_eraseIdx]
      rw [List.getElem?_eraseIdx] at hkv
      split at hkv
      ·rename_i hl
       rw [if_pos hl,ad5]; exact g4 l kv hkv
      ·rename_i hl
       rw [if_neg hl,ad5]; exact g4 (l+1) kv hkv)
     (MapKept.stamped_erase g5 j)
    exact⟨_,by simp [Builtin.delete_,hts,run_underlying ht,MapKept.run_getObj_map g1,hck,hfk,MapKept.run_setObj_map _ g1,Sem.run_pure],s1,s2⟩
  ·cases hb
 ·cases hb
theorem Bq:∀{rows:List (List kP)}{bs:List UInt8},bytesOf rows=some bs→∃ns:List Int,rows=ns.map (fun n=>[kP.int .u8 n])∧bs=ns.map fun n=>UInt8.ofNat n.toNat
 | [],bs,hb=>by simp [bytesOf] at hb; subst hb; exact⟨[],rfl,rfl⟩
 | row::r,bs,hb=>by
  unfold bytesOf at hb
  split at hb
  ·rename_i h0; cases h0
  ·rename_i n r' h0
   cases h0
   split at hb
   ·rename_i bs' hbs
    cases hb
    obtain⟨ns,h1,h2⟩:=Bq hbs
    exact⟨n::ns,by simp [h1],by simp [h2]⟩
   ·cases hb
  ·cases hb
theorem Be {ns:List Int}(hrows:qU 1 h x=some (ns.map (fun n=>[kP.int .u8 n]))) (i:Inv G h w) (hx:lP G h x X):∃V,(Conv.bytesToString X).run P w=.ok V w∧lP G h (.str (ns.map fun n=>UInt8.ofNat n.toNat)) V:=by
 obtain⟨a,news,s⟩:=zW i hrows hx
 obtain⟨cap,hX⟩:=s.form
 have hnews:news=ns.map (Value.int .u8):=by
  apply List.ext_getElem?
  intro j
  cases hj:ns[j]? with
  | none =>
   have:ns.length≤j:=List.getElem?_eq_none_iff.1 hj
   rw [List.getElem?_eq_none (by rw [s.len]; simp; exact this),List.getElem?_eq_none (by simpa using this)]
  | some n =>
   obtain⟨u,h1,h2,_⟩:=s.rel j 0 [kP.int .u8 n] (.int .u8 n) (by simp [hj]) rfl
   simp only [Nat.mul_one,an8] at h1
   rw [h1,ag6,hj]
   cases h2; rfl
 have hstr:(ns.foldl (fun r n=>r.push (UInt8.ofNat n.toNat)) ByteArray.empty)=⟨(ns.map fun n=>UInt8.ofNat n.toNat).toArray⟩:=by
  have:∀(ns:List Int) (b:ByteArray),ns.foldl (fun r n=>r.push (UInt8.ofNat n.toNat)) b=⟨(b.data.toList++ns.map fun n=>UInt8.ofNat n.toNat).toArray⟩:=by
   intro ns
   induction ns with
   | nil=>intro b; cases b; simp
   | cons n ns ih=>intro b; rw [List.foldl_cons,ih]; cases b; simp [ByteArray.push]
  rw [this]; rfl
 refine⟨.string ⟨(ns.map fun n=>UInt8.ofNat n.toNat).toArray⟩,?_,.p _ _ (.str _)⟩
 rw [hX]
 cases a with
 | none =>
  have h0:ns=[]:=by
   cases ns with
   | nil=>rfl
   | cons n ns =>
    obtain⟨ad,h1,_⟩:=s.at_ 0 (.int .u8 n) (by rw [hnews]; rfl)
    cases h1
  subst h0
  rfl
 | some ad =>
  have hload:(loadCells ad (ns.map (fun n=>[kP.int .u8 n])).length).run P w=.ok (ns.map (Value.int .u8)).toArray w:=by
   have:=run_loadCells (P:=P) w ad ns.length (fun j=>news.getD j undef) (fun j hj=>by
    have hjn:news[j]?=some (news.getD j undef):=by
     rw [af0,ac1 (by rw [hnews]; simpa using hj)]; rfl
    obtain⟨ad',h1,h2⟩:=s.at_ j _ hjn
    cases h1; exact h2)
   rw [List.length_map,this]
   congr 1
   apply Array.ext'
   simp only [List.toList_toArray] at *
   apply List.ext_getElem?
   intro j
   rw [hnews]
   by_cases hj:j < ns.length
   ·simp [hj,af0]
   ·simp [List.getElem?_eq_none (show ns.length≤j by omega),hj]
  have:=run_bytesToString (P:=P) w ad _ cap ns hload
  rw [hstr] at this
  exact this
theorem Jz (i:Inv G h w) (hb:xD x=some v) (hx:lP G h x X):∃V,(Conv.bytesToString X).run P w=.ok V w∧lP G h v V:=by
 unfold xD at hb
 split at hb
 ·rename_i rows tok
  simp only [ac5] at hb
  obtain⟨bs,hbs,rfl⟩:=hb
  obtain⟨ns,rfl,rfl⟩:=Bq hbs
  have hrows:qU 1 h (.slice (ns.map (fun n=>[kP.int .u8 n])) tok)=some (ns.map (fun n=>[kP.int .u8 n])):=by
   simp [qU]
  exact Be hrows i hx
 ·cases hb
theorem M4 (i:Inv G h w) (hb:E3 h x=some v) (hx:lP G h x X):∃V,(Conv.bytesToString X).run P w=.ok V w∧lP G h v V:=by
 unfold E3 at hb
 split at hb
 ·split at hb
  ·rename_i rows hrows
   simp only [ac5] at hb
   obtain⟨bs,hbs,rfl⟩:=hb
   obtain⟨ns,rfl,rfl⟩:=Bq hbs
   exact Be hrows i hx
  ·cases hb
 ·split at hb
  ·rename_i rows hrows
   simp only [ac5] at hb
   obtain⟨bs,hbs,rfl⟩:=hb
   obtain⟨ns,rfl,rfl⟩:=Bq hbs
   exact Be hrows i hx
  ·cases hb
 ·exact Jz i hb hx
def IX (P:Program) (A:Cd) (f:Nat):Prop :=
 (∀(X:Array Value) (w:World),(callFunc f X).run P w=.ok (.enter f X) w) ∧
 ∀(w:World) (b off t:Nat) (C:Array Value),A.bld t off C.size=true→w.heap[b]?=some (.cells C t (0,0))→off < C.size→(C[off]?=some (.pointer none)∨C[off]?=some (.pointer (some ⟨b,off,none⟩))) →
  Calls P f #[.pointer (some ⟨b,off,none⟩)] w fun e w'=>e=.returned (.tuple #[])∧w'=w.setRow b (C.toList.take off++[Value.pointer (some ⟨b,off,none⟩)]++C.toList.drop (off+1)).toArray
def IW (P:Program) (f:Nat) (e:TypeId):Prop :=
 (∀(X:Array Value) (w:World),(callFunc f X).run P w=.ok (.enter f X) w) ∧
 (∀(w:World) (b off:Nat),w.cell? ⟨b,off+1,none⟩=some (.slice none 0 0)→Calls P f #[.pointer (some ⟨b,off,none⟩)] w fun ev w'=>ev=.returned (.string ⟨#[]⟩)∧∃d,w'={ w with drawn:=d }) ∧
 ∀(w:World) (b off g cap:Nat) (C:Array Value) (l:List UInt8),w.cell? ⟨b,off+1,none⟩=some (.slice (some ⟨g,0,none⟩) l.length cap)→w.heap[g]?=some (.cells C e (0,0))→l≠[]→l.length≤cap→cap≤maxLen→C.size=cap →
  (∀(j:Nat) x,l[j]?=some x→C[j]?=some (.int .u8 (x.toNat:Int)))→Calls P f #[.pointer (some ⟨b,off,none⟩)] w fun ev w'=>ev=.returned (.string ⟨l.toArray⟩)∧∃d,w'=World.freeze { w with drawn:=d } ⟨g,0,none⟩ l.length
def ao7 (P:Program) (A:Cd) (f:Nat) (g:List kP→Option kP):Prop :=
 (∀(X:Array Value) (w:World),(callFunc f X).run P w=.ok (.enter f X) w) ∧
 ∀(G:Gh) (h:kT) (w:World) (args:List kP) (X:Array Value) (v:kP),Inv G h w→tM A G h w→args.length=X.size→(∀(i:Nat) (u:kP),args[i]?=some u→lP G h u (X.getD i undef))→g args=some v →
  Calls P f X w fun e w'=>(∃V,e=.returned V∧rI G.H v V)∧w'.os=w.os∧w'.tape=w.tape∧w'.output=w.output∧∃os,w'.heap=w.heap++os
def amJ (P:Program) (A:Cd) (f:Nat):agH→Prop
 | .copyCheck=>IX P A f
 | .bldString e=>IW P f e
 | .fn g=>ao7 P A f g
def yQ (P:Program) (A:Cd):Prop:=(∀f,A.ext f=some .indexByte→∃fn,P.funcs[f]?=some fn∧(fn.name == "runtime.NumGoroutine")=false∧fn.body.isNone=true∧Extern.findNext fn=none∧Extern.find fn=some Extern.BytealgIndexByte.indexByte)∧∀f k,A.prm f=some k→amJ P A f k
theorem M5 (l:List UInt8) (c:UInt8):tA l c=Lib.indexByte l c:=by
 induction l with
 | nil=>rfl
 | cons b l ih=>simp only [tA,Lib.indexByte,ih]
theorem K6 {A:Cd}{f:Nat}{k:af3}{args:List kP}{r:n_×kT}{Xs:Array Value}(hX:yQ P A) (hf:A.ext f=some k) (hb:aaB k args h=some r) (hl:args.length=Xs.size)
  (hr:∀(i:Nat) (v:kP),args[i]?=some v→lP G h v (Xs.getD i undef)):∃v V,r=(.ret v,h)∧(callFunc f Xs).run P w=.ok (.value V) w∧lP G h v V:=by
 unfold aaB at hb
 simp only [ac5] at hb
 obtain⟨v,hv,rfl⟩:=hb
 cases k with
 | indexByte =>
  unfold aq5 at hv
  split at hv
  ·rename_i s c _
   cases hv
   obtain⟨fn,e1,e2,e3,e4,e5⟩:=hX.1 f hf
   have h0:=(hr 0 _ rfl).Ao
   have h1:=(hr 1 _ rfl).rB
   have hXs:Xs=#[.string ⟨s.toArray⟩,.int .u8 c]:=by
    obtain⟨l⟩:=Xs
    match l,hl,h0,h1 with
    | [a,b],_,h0,h1=>simp at h0 h1; subst h0; subst h1; rfl
   refine⟨_,.int .i64 (tA s (UInt8.ofNat c.toNat)),rfl,?_,.p _ _ (.int _ _)⟩
   rw [run_callFunc_extern e1 e2 e3 e4 e5,hXs,Lib.run_indexByteString,M5]
   rfl
  ·cases hv
end
end
end Hk
