/-
  The texts Vk.Abs, Vk.Eval, Vk.Rel, Vk.Base, Vk.Pure, Vk.Pure2, Vk.Pure3, Vk.Mem, Vk.Mem2, Vk.Mem3, Vk.Mem4, Vk.Mem5, Vk.Mem6, Vk.Mem7, Vk.Mem8, Vk.Mem9, one behind another. No conditions.
-/
import Derived.WalkKit
import Derived.MapKept
import Derived.Laws.MakeOwn
import Derived.Laws.BytesString
import Derived.Lib.Bytealg
set_option linter.unusedVariables false
set_option linter.unusedSimpArgs false
set_option linter.all false
open Array renaming getD_eq_getD_getElem? → ab2, getElem?_toList → ad3, length_toList → ak1
open List renaming all_eq_true → ah1, append_assoc → af9, getD_eq_getElem?_getD → af6, getElem?_append_left → af7, getElem?_append_right → ac9, getElem?_drop → ah5, getElem?_eq_getElem → ac0, getElem?_eq_some_iff → ab1, getElem?_map → ai1, getElem?_take → ah3, length_append → ac2, length_drop → al3, length_take → ak8, mem_of_getElem? → af1, replicate → aj3
open Nat renaming add_mul → al4, add_zero → al5, le_refl → ac5, mul_le_mul_right → aj0, zero_add → al6, zero_le → ah9
open Option renaming bind_eq_some_iff → aa2, map_eq_some_iff → ac6
open Option.some renaming injEq → ab0
open Prod.mk renaming injEq → af8
namespace Hk
section
open Go
inductive Tok where
 | no | nil | own (id:Nat)
 deriving DecidableEq,Inhabited
inductive kM where
 | junk
 | bool (b:Bool)
 | int (k:IntKind) (n:Int)
 | str (s:List UInt8)
 | agg (cs:List kM)
 | tuple (vs:List kM)
 | slice (rows:List (List kM)) (tok:Tok)
 | pptr (cs:List kM)
 | ptr (id off:Nat)
 | nilptr
 | mslice (id off len sz:Nat)
 | vslice (id tot off len sz:Nat)
 | vptr (id tot off:Nat)
 | map (id:Nat)
 | nilmap
 | func (f:Nat) (first cap:List kM)
 | nilfunc
 | iface (t:Nat) (v:kM)
 | niliface
 deriving Inhabited
inductive lE where
 | free
 | gone
 | cells (cs:List kM)
 | front (n sz:Nat) (t:Nat:=0)
 | vec (tot sz:Nat) (cs:List kM)
 | map (es:List (kM×kM))
 | tcells (t:Nat) (cs:List kM)
 deriving Inhabited
abbrev kP:=List lE
inductive Ex where
 | normal | ret | exit (id:Nat) | pan (v:kM)
 deriving Inhabited
inductive vG where
 | ret (v:kM) | pan (v:kM)
 deriving Inhabited
abbrev lB:=Nat→List kM→kP→Option (vG×kP)
abbrev R:=Ex×List kM×kP
inductive amR where
 | indexByte
 deriving DecidableEq
inductive anE where
 | copyCheck
 | bldString (e:Nat)
 | fn (g:List kM→Option kM)
structure CF where
 glob:Nat→Option (List kM):=fun _=>none
 esc:Nat→Bool:=fun _=>false
 grow:Nat→Bool:=fun _=>false
 pure:Nat→Bool:=fun _=>false
 ext:Nat→Option amR:=fun _=>none
 pan:Nat→Bool:=fun _=>false
 dfr:Nat→Bool:=fun _=>false
 srt:Nat→Bool:=fun _=>false
 srf:Nat→Option Nat:=fun _=>none
 vec:Nat→Bool:=fun _=>false
 frz:Nat→Bool:=fun _=>false
 vecT:Nat→Nat→Bool:=fun _ _=>false
 vmk:Nat→Bool:=fun _=>false
 jt:Nat→Bool:=fun _=>false
 sub:Nat→Bool:=fun _=>false
 out:Nat→Bool:=fun _=>false
 frr:Nat→Bool:=fun _=>false
 rb:Nat→Bool:=fun _=>false
 vlitT:Nat→Nat→Bool:=fun _ _=>false
 frl:Nat→Bool:=fun _=>false
 lkp:Nat→Bool:=fun _=>false
 tb:Nat→Bool:=fun _=>false
 tbt:Nat→Bool:=fun _=>false
 bld:Nat→Nat→Nat→Bool:=fun _ _ _=>false
 gsz:Nat→Option Nat:=fun _=>none
 prm:Nat→Option anE:=fun _=>none
 vlit:Nat→Bool:=fun _=>false
 kp:Nat→Bool:=fun _=>false
 ck:Nat→Bool:=fun _=>false
def kM.cells:kM→List kM
 | .agg cs=>cs
 | v=>[v]
def E9:Value→kM
 | .bool b=>.bool b
 | .int k n=>.int k n
 | .string s=>.str s.data.toList
 | .pointer none=>.nilptr
 | .slice none 0 0=>.slice [] .nil
 | .map none=>.nilmap
 | .nilFunc=>.nilfunc
 | .nilIface=>.niliface
 | _=>.junk
def ofConst:Value→kM
 | .agg cs=>.agg (cs.toList.map E9)
 | .tuple cs=>match cs.toList with | []=>.tuple [] | _=>.junk
 | v=>E9 v
def tD (A:CF) (ρ:List kM):Operand→kM
 | .tmp t=>ρ.getD t .junk
 | .const v=>ofConst v
 | .global g=>match A.glob g with | some cs=>.pptr cs | none=>.junk
 | .func f=>.func f [] []
def kM.C8:kM→Option kM
 | .bool b=>some (.bool b)
 | .int k n=>some (.int k n)
 | .str s=>some (.str s)
 | .slice rows _=>some (.slice rows .no)
 | .pptr cs=>some (.pptr cs)
 | .nilptr=>some .nilptr
 | .nilmap=>some .nilmap
 | .func f [] []=>some (.func f [] [])
 | .nilfunc=>some .nilfunc
 | .niliface=>some .niliface
 | _=>none
def n_:List kM→Option (List kM)
 | []=>some []
 | v::r=>match v.C8,n_ r with
  | some x,some y=>some (x::y)
  | _,_=>none
def kM.pL:kM→Bool
 | .junk=>true
 | _=>false
def kM.mD:kM→Bool
 | .junk | .agg _ | .tuple _=>false
 | _=>true
def rowsOf:Nat→Nat→List kM→List (List kM)
 | 0,_,_=>[]
 | n+1,sz,cs=>cs.take sz::rowsOf n sz (cs.drop sz)
def qA:kM→Option Nat
 | .ptr id _=>some id
 | .mslice id _ _ _=>some id
 | .vslice id _ _ _ _=>some id
 | .vptr id _ _=>some id
 | .map id=>some id
 | .slice _ (.own id)=>some id
 | _=>none
def kM.pE (m:Nat):kM→Bool
 | .agg _=>false
 | .tuple _=>false
 | .iface _ _=>false
 | .func _ first cap=>first.isEmpty && cap.isEmpty
 | v=>match qA v with | some r=>decide (r < m) | none=>true
def kM.nP (m:Nat):kM→Bool
 | .agg cs=>cs.all (kM.pE m)
 | .iface _ v=>v.pE m
 | .func _ first cap=>first.all (kM.pE m) && cap.all (kM.pE m)
 | v=>v.pE m
def kM.mO (m:Nat) (h:kP):kM→kM
 | .slice rows (.own id)=>bif decide (id < m) then .slice rows (.own id) else .slice rows .no
 | .ptr id off=>bif decide (id < m) then .ptr id off else
   match h[id]? with
   | some (.cells cs)=>match n_ (cs.drop off) with
    | some row=>.pptr row
    | none=>.junk
   | _=>.junk
 | .mslice id off len sz=>bif decide (id < m) then .mslice id off len sz else
   match h[id]? with
   | some (.cells cs)=>match n_ ((cs.drop off).take (len * sz)) with
    | some row=>bif decide (off+len * sz≤cs.length) then .slice (rowsOf len sz row) .no else .junk
    | none=>.junk
   | _=>.junk
 | .vslice id tot off len sz=>bif decide (id < m) then .vslice id tot off len sz else
   match h[id]? with
   | some (.vec tot' _ cs)=>match n_ ((cs.drop off).take (len * sz)) with
    | some row=>bif decide (tot=tot'∧off+len * sz≤cs.length) then .slice (rowsOf len sz row) .no else .junk
    | none=>.junk
   | _=>.junk
 | v=>bif v.nP m then v else .junk
def kM.vM (m:Nat) (h:kP):kM→kM
 | .agg cs=>.agg (cs.map (·.mO m h))
 | .tuple vs=>.tuple (vs.map fun v=>match v with | .agg cs=>.agg (cs.map (·.mO m h)) | v=>v.mO m h)
 | .iface t (.agg cs)=>.iface t (.agg (cs.map (·.mO m h)))
 | .iface t v=>.iface t (v.mO m h)
 | v=>v.mO m h
def nI (m:Nat) (h:kP):List kM→Option (List kM)
 | []=>some []
 | v::r=>bif (v.mO m h).mD then(match nI m h r with | some r'=>some (v.mO m h::r') | none=>none) else none
def pF (m:Nat) (h:kP):lE→Option lE
 | .cells cs=>(nI m h cs).map .cells
 | .vec tot sz cs=>(nI m h cs).map (.vec tot sz)
 | .tcells t cs=>(nI m h cs).map (.tcells t)
 | .map es=>bif es.all (fun e=>e.2.nP m) then some (.map es) else none
 | b=>some b
def nK (m:Nat) (h:kP):List lE→Option (List lE)
 | []=>some []
 | b::r=>match pF m h b,nK m h r with
  | some b',some r'=>some (b'::r')
  | _,_=>none
def l9 (m:Nat) (h:kP):Option kP:=nK m h (h.take m)
def kM.uH:kM→kM
 | .slice rows _=>.slice rows .no
 | v=>v
def kM.mV:kM→kM
 | .agg cs=>.agg (cs.map kM.uH)
 | .tuple vs=>.tuple (vs.map fun v=>match v with | .agg cs=>.agg (cs.map kM.uH) | v=>v.uH)
 | v=>v.uH
def kV (op:BinOp) (x y:kM):Option kM :=
 match x,y with
 | .int k a,.int k' b =>
  match op with
  | .shl=>if b < 0 then none else some (.int k (k.wrap (a * 2 ^ (min b.toNat k.bits))))
  | .shr=>if b < 0 then none else some (.int k (a.fdiv (2 ^ (min b.toNat k.bits))))
  | _=>if k≠k' then none else
   match op with
   | .add=>some (.int k (k.wrap (a+b)))
   | .sub=>some (.int k (k.wrap (a - b)))
   | .mul=>some (.int k (k.wrap (a * b)))
   | .quo=>if b=0 then none else some (.int k (k.wrap (a.tdiv b)))
   | .rem=>if b=0 then none else some (.int k (a.tmod b))
   | .and=>some (.int k (k.wrap (BitVec.ofInt k.bits a &&& BitVec.ofInt k.bits b).toNat))
   | .or=>some (.int k (k.wrap (BitVec.ofInt k.bits a ||| BitVec.ofInt k.bits b).toNat))
   | .xor=>some (.int k (k.wrap (BitVec.ofInt k.bits a ^^^ BitVec.ofInt k.bits b).toNat))
   | .andNot=>some (.int k (k.wrap (BitVec.ofInt k.bits a &&& ~~~ BitVec.ofInt k.bits b).toNat))
   | .eql=>some (.bool (a == b))
   | .neq=>some (.bool (a != b))
   | .lss=>some (.bool (a < b))
   | .leq=>some (.bool (a≤b))
   | .gtr=>some (.bool (a > b))
   | .geq=>some (.bool (a≥b))
   | _=>none
 | .str a,.str b =>
  match op with
  | .add=>if a.length+b.length≤4611686018427387904 then some (.str (a++b)) else none
  | .eql=>some (.bool (a == b))
  | .neq=>some (.bool (!(a == b)))
  | .lss=>some (.bool (Op.bytesLess a b))
  | .leq=>some (.bool (Op.bytesLess a b || a == b))
  | .gtr=>some (.bool (!(Op.bytesLess a b || a == b)))
  | .geq=>some (.bool (!(Op.bytesLess a b)))
  | _=>none
 | _,_=>none
def Gd (op:BinOp) (x y:kM):Option kM :=
 match op,x,y with
 | .eql,.bool a,.bool b=>some (.bool (a == b))
 | .neq,.bool a,.bool b=>some (.bool (!(a == b)))
 | _,_,_=>none
def F9:kM→kM→Option Bool
 | .int k a,.int k' b=>if k=k' then some (a == b) else none
 | .bool a,.bool b=>some (a == b)
 | .str a,.str b=>some (a == b)
 | _,_=>none
inductive Kd where
 | b | i | s
 deriving DecidableEq
def Gu:Kd→kM→kM→Option Bool
 | .i,.int k a,.int k' b=>if k=k' then some (a == b) else none
 | .b,.bool a,.bool b=>some (a == b)
 | .s,.str a,.str b=>some (a == b)
 | _,_,_=>none
def rM:List Kd→List kM→List kM→Option Bool
 | [],[],[]=>some true
 | k::ks,x::xs,y::ys=>match Gu k x y,rM ks xs ys with
  | some a,some b=>some (a && b)
  | _,_=>none
 | _,_,_=>none
def rX (ks:List Kd):kM→kM→Option Bool
 | .agg xs,.agg ys=>rM ks xs ys
 | _,_=>none
def vT (op:UnOp) (x:kM):Option kM :=
 match op,x with
 | .neg,.int k n=>some (.int k (k.wrap (0 - n)))
 | .xor,.int k n=>some (.int k (k.wrap (BitVec.ofInt k.bits (if k.signed then -1 else k.max) ^^^ BitVec.ofInt k.bits n).toNat))
 | .not,.bool b=>some (.bool !b)
 | _,_=>none
def vR (k:IntKind):kM→Option kM
 | .int _ n=>some (.int k (k.wrap n))
 | _=>none
def lN (c a b:kM):Option kM :=
 match c with
 | .bool g=>some (bif g then a else b)
 | _=>none
def apart (isAgg:Bool) (n:Nat) (cs:List kM) (off:Nat):Option kM :=
 bif isAgg then(if off+n≤cs.length then some (.agg ((cs.drop off).take n)) else none) else cs[off]?
def sP (isAgg:Bool) (n off:Nat):kM→Option kM
 | .agg cs=>apart isAgg n cs off
 | _=>none
def lH (i:Nat):kM→Option kM
 | .tuple vs=>vs[i]?
 | _=>none
def m_ (x i:kM):Option kM :=
 match x,i with
 | .str s,.int _ n=>if 0≤n then(s[n.toNat]?).map fun b=>.int .u8 b.toNat else none
 | _,_=>none
def IT (isAgg:Bool) (len sz:Nat) (x i:kM):Option kM :=
 match x,i with
 | .agg cs,.int _ n=>if 0≤n∧n < len then apart isAgg sz cs (n.toNat * sz) else none
 | _,_=>none
def kX (sz:Nat) (x i:kM):Option kM :=
 match x,i with
 | .slice rows _,.int _ n =>
  if 0≤n then match rows[n.toNat]? with
   | some row=>if row.length=sz then some (.pptr row) else none
   | none=>none
  else none
 | .mslice id off len sz',.int _ n=>if 0≤n∧n < len∧sz'=sz then some (.ptr id (off+n.toNat * sz)) else none
 | .vslice id tot off len sz',.int _ n=>if 0≤n∧n < len∧sz'=sz then some (.vptr id tot (off+n.toNat * sz)) else none
 | _,_=>none
def Cd (len sz:Nat) (x i:kM):Option kM :=
 match x,i with
 | .ptr id off,.int _ n=>if 0≤n∧n < len then some (.ptr id (off+n.toNat * sz)) else none
 | .pptr cs,.int _ n=>if 0≤n∧n < len then some (.pptr (cs.drop (n.toNat * sz))) else none
 | _,_=>none
def kO (off:Nat):kM→Option kM
 | .ptr id o=>some (.ptr id (o+off))
 | .vptr id tot o=>some (.vptr id tot (o+off))
 | .pptr cs=>some (.pptr (cs.drop off))
 | _=>none
def uS (x:Option kM) (dflt:Nat):Option Nat :=
 match x with
 | none=>some dflt
 | some (.int _ n)=>if 0≤n then some n.toNat else none
 | _=>none
def oK (x:kM) (lo hi:Option kM):Option kM :=
 match x with
 | .str s=>match uS lo 0,uS hi s.length with
  | some l,some u=>if l≤u∧u≤s.length then some (.str ((s.drop l).take (u - l))) else none
  | _,_=>none
 | _=>none
def IY (len sz:Nat) (x:kM) (lo hi:Option kM):Option kM :=
 match x,lo,hi with
 | .ptr id off,none,none=>if 0 < len then some (.mslice id off len sz) else none
 | _,_,_=>none
def uT (sz:Nat) (x:kM) (lo hi:Option kM):Option kM :=
 match x with
 | .slice rows _=>match uS lo 0,uS hi rows.length with
  | some l,some u=>if l≤u∧u≤rows.length∧(rows.all fun r=>r.length == sz) then some (.slice ((rows.drop l).take (u - l)) .no) else none
  | _,_=>none
 | .mslice id off len sz'=>match uS lo 0,uS hi len with
  | some l,some u=>if l≤u∧u≤len∧sz'=sz then some (.mslice id (off+l * sz) (u - l) sz) else none
  | _,_=>none
 | .vslice id tot off len sz'=>match uS lo 0,uS hi len with
  | some l,some u=>if l≤u∧u≤len∧sz'=sz then(if l=0∨l < u then some (.vslice id tot (off+l * sz) (u - l) sz) else some (.slice [] .no)) else none
  | _,_=>none
 | _=>none
def nQ:kM→Option kM
 | .str s=>some (.int .i64 s.length)
 | _=>none
def mN:kM→Option kM
 | .slice rows _=>some (.int .i64 rows.length)
 | .mslice _ _ len _=>some (.int .i64 len)
 | .vslice _ _ _ len _=>some (.int .i64 len)
 | _=>none
def CS (x y:kM):Option kM :=
 match x,y with
 | .int k a,.int _ b=>some (.int k (if b > a then b else a))
 | _,_=>none
def Ho (x y:kM):Option kM :=
 match x,y with
 | .int k a,.int _ b=>some (.int k (if b < a then b else a))
 | _,_=>none
def T0:kM→List kM→Option kM
 | x,[]=>some x
 | x,y::r=>(Ho x y).bind fun z=>T0 z r
def Kg:kM→List kM→Option kM
 | x,[]=>some x
 | x,y::r=>(CS x y).bind fun z=>Kg z r
def mY (h:kP) (id:Nat):Option (List kM) :=
 match h[id]? with
 | some (.cells cs)=>some cs
 | _=>none
def qC (h:kP) (id tot:Nat):Option (Nat×List kM) :=
 match h[id]? with
 | some (.vec tot' sz cs)=>if tot'=tot then some (sz,cs) else none
 | _=>none
def kT (isAgg:Bool) (n:Nat) (h:kP):kM→Option kM
 | .pptr cs=>apart isAgg n cs 0
 | .ptr id off=>match mY h id with
  | some cs=>apart isAgg n cs off
  | none=>none
 | .vptr id tot off=>match qC h id tot with
  | some x=>apart isAgg n x.2 off
  | none=>none
 | _=>none
def putCells (cs:List kM) (off:Nat) (vs:List kM):List kM:=cs.take off++vs++cs.drop (off+vs.length)
def kM.isNil:kM→Bool
 | .slice [] .nil=>true
 | _=>false
def yX (h:kP) (o v:kM):kM:=bif v.isNil then(match o with
 | .slice [] (.own id)=>(match h[id]? with
  | some (.front 0 0)=>.slice [] (.own id)
  | _=>v)
 | _=>v) else v
def pV (h:kP):List kM→List kM→List kM
 | o::os,v::vs=>yX h o v::pV h os vs
 | _,vs=>vs
def kR (n:Nat) (h:kP) (p v:kM):Option kP :=
 match p with
 | .ptr id off=>match mY h id with
  | some cs =>
   let vs:=v.cells
   if vs.length=n∧off+n≤cs.length∧vs.all kM.mD then some (h.set id (.cells (putCells cs off (pV h (cs.drop off) vs)))) else none
  | none=>none
 | .vptr id tot off=>match qC h id tot with
  | some x =>
   let vs:=v.cells
   if vs.length=n∧off+n≤x.2.length∧vs.all kM.mD then some (h.set id (.vec tot x.1 (putCells x.2 off vs))) else none
  | none=>none
 | _=>none
def lD:Nat→List kM→List kM×kP
 | _,[]=>([],[])
 | id,.slice [] .nil::r=>let (a,b):=lD (id+1) r; (.slice [] (.own id)::a,.front 0 0::b)
 | id,v::r=>let (a,b):=lD id r; (v::a,b)
def lK (n:Nat) (h:kP) (v:kM):Option (kM×kP) :=
 let vs:=v.cells
 if vs.length=n∧vs.all kM.mD then
  let (cs,fs):=lD (h.length+1) vs
  some (.ptr h.length 0,h++(.cells cs::fs))
 else none
def tX (bs:List UInt8):List (List kM):=bs.map fun b=>[kM.int .u8 (b.toNat:Int)]
def BT (h:kP) (id:Nat):Option (Nat×List kM) :=
 match h[id]? with
 | some (.tcells t cs)=>some (t,cs)
 | _=>none
def l_ (isAgg:Bool) (n:Nat) (h:kP):kM→Option kM
 | .ptr id off=>match BT h id with
  | some x=>apart isAgg n x.2 off
  | none=>kT isAgg n h (.ptr id off)
 | v=>kT isAgg n h v
def pU (n:Nat) (h:kP) (p v:kM):Option kP :=
 match p with
 | .ptr id off=>match BT h id with
  | some x =>
   let vs:=v.cells
   if vs.length=n∧off+n≤x.2.length∧vs.all kM.mD then some (h.set id (.tcells x.1 (putCells x.2 off (pV h (x.2.drop off) vs)))) else none
  | none=>kR n h (.ptr id off) v
 | p=>kR n h p v
def IV (tb g:Bool) (n:Nat) (h:kP) (x:kM):Option kM:=bif tb then l_ g n h x else kT g n h x
def Yq (tb:Bool) (n:Nat) (h:kP) (p v:kM):Option kP:=bif tb then pU n h p v else kR n h p v
def Kk (t n:Nat) (h:kP) (v:kM):Option (kM×kP) :=
 let vs:=v.cells
 if vs.length=n∧vs.all kM.mD then
  let (cs,fs):=lD (h.length+1) vs
  some (.ptr h.length 0,h++(.tcells t cs::fs))
 else none
def Ym (tb:Bool) (t n:Nat) (h:kP) (v:kM):Option (kM×kP):=bif tb then Kk t n h v else lK n h v
def pY (sz:Nat) (h:kP):kM→Option (List (List kM))
 | .slice rows _=>if rows.all fun r=>r.length == sz then some rows else none
 | .mslice id off len sz'=>match mY h id with
  | some cs=>if sz'=sz∧off+len * sz≤cs.length then(match n_ ((cs.drop off).take (len * sz)) with | some row=>some (rowsOf len sz row) | none=>none) else none
  | none=>none
 | .vslice id tot off len sz'=>match qC h id tot with
  | some x=>if sz'=sz∧off+len * sz≤x.2.length then(match n_ ((x.2.drop off).take (len * sz)) with | some row=>some (rowsOf len sz row) | none=>none) else none
  | none=>none
 | _=>none
def afP (sz:Nat) (h:kP):kM→Option (List (List kM))
 | .vslice id tot off len sz'=>match qC h id tot with
  | some x=>if sz'=sz∧off+len * sz≤x.2.length then some (rowsOf len sz ((x.2.drop off).take (len * sz))) else none
  | none=>none
 | _=>none
def EN (sz:Nat) (h:kP) (x:kM):Option (List (List kM)):=match pY sz h x with
 | some r=>some r
 | none=>afP sz h x
def mG (sz bytes:Nat) (h:kP) (s x:kM):Option (kM×kP) :=
 match s,pY sz h x with
 | .slice rows (.own id),some new =>
  match h[id]? with
  | some (.front n sz') =>
   if rows.length=n∧(sz'=sz∨n=0∧sz'=0)∧(n+new.length) * bytes≤140737488355328∧n+new.length≤140737488355328
   then(if new.length=0 then some (.slice rows (.own id),h) else some (.slice (rows++new) (.own id),h.set id (.front (n+new.length) sz))) else none
  | _=>none
 | .slice [] .nil,some new =>
  if new.length=0 then some (.slice [] .nil,h) else
  if new.length * bytes≤140737488355328∧new.length≤140737488355328 then some (.slice new (.own h.length),h++[.front new.length sz]) else none
 | _,_=>none
def yU (t1 sz bytes:Nat) (h:kP) (s x:kM):Option (kM×kP) :=
 match s,pY sz h x with
 | .slice rows (.own id),some new =>
  match h[id]? with
  | some (.front n sz' t') =>
   if rows.length=n∧(sz'=sz∨n=0∧sz'=0)∧(n+new.length) * bytes≤140737488355328∧n+new.length≤140737488355328
   then(if new.length=0 then some (.slice rows (.own id),h) else some (.slice (rows++new) (.own id),h.set id (.front (n+new.length) sz (bif sz' == 0 || t' == t1 then t1 else 0)))) else none
  | _=>none
 | .slice [] .nil,some new =>
  if new.length=0 then some (.slice [] .nil,h) else
  if new.length * bytes≤140737488355328∧new.length≤140737488355328 then some (.slice new (.own h.length),h++[.front new.length sz t1]) else none
 | _,_=>none
def AN (t1 sz by_ zl:Nat) (h:kP) (s x:kM):Option (kM×kP) :=
 match x with
 | .str bs=>bif sz == 1 && zl == 1 then yU t1 1 by_ h s (.slice (tX bs) .no) else none
 | _=>none
def yV (sz bytes:Nat) (h:kP) (s x:kM):Option (kM×kP) :=
 match s,EN sz h x with
 | .slice [] (.own id),some new =>
  match h[id]? with
  | some (.front 0 0) =>
   if new.length * bytes≤140737488355328∧new.length≤140737488355328
   then(if new.length=0 then some (.slice [] (.own id),h) else some (.vslice id new.length 0 new.length sz,h.set id (.vec new.length sz new.flatten))) else none
  | _=>none
 | .slice [] .nil,some new =>
  if new.length=0 then some (.slice [] .nil,h) else
  if new.length * bytes≤140737488355328∧new.length≤140737488355328 then some (.vslice h.length new.length 0 new.length sz,h++[.vec new.length sz new.flatten]) else none
 | .vslice id tot 0 n sz',some new =>
  match qC h id tot with
  | some x =>
   if sz'=sz∧x.1=sz∧(n+new.length) * bytes≤140737488355328∧n+new.length≤140737488355328
   then(if new.length=0 then some (.vslice id tot 0 n sz,h)
    else if n+new.length≤tot then some (.vslice id tot 0 (n+new.length) sz,h.set id (.vec tot sz (putCells x.2 (n * sz) new.flatten)))
    else some (.vslice id (n+new.length) 0 (n+new.length) sz,h.set id (.vec (n+new.length) sz (x.2.take (n * sz)++new.flatten)))) else none
  | none=>none
 | _,_=>none
def rY (h:kP) (v:kM):Option (kM×kP) :=
 match v with
 | .vslice id tot off len sz=>match qC h id tot with
  | some x=>match n_ ((x.2.drop off).take (len * sz)) with
   | some row=>if off+len * sz≤x.2.length then some (.slice (rowsOf len sz row) .no,h.set id .gone) else none
   | none=>none
  | none=>none
 | v=>some (v,h)
def EJ:kP→List kM→Option (List kM×kP)
 | h,[]=>some ([],h)
 | h,c::r=>(rY h c).bind fun y=>(EJ y.2 r).bind fun z=>some (y.1::z.1,z.2)
def Mv (h:kP) (v:kM):Option (kM×kP) :=
 match v with
 | .agg cs=>(EJ h cs).bind fun z=>some (.agg z.1,z.2)
 | v=>some (v,h)
def Wb (sz:Nat) (zero:List kM) (h:kP) (x:kM):Option kP :=
 match x with
 | .slice [] _=>some h
 | .vslice id tot off len sz'=>if len=0 then some h else match qC h id tot with
  | some x=>if sz'=sz∧zero.length=sz∧zero.all kM.mD∧off+len * sz≤x.2.length then some (h.set id (.vec tot x.1 (putCells x.2 off (aj3 len zero).flatten))) else none
  | none=>none
 | _=>none
def lS (zero:List kM) (places:List (Nat×Nat)) (parts:List (Nat×kM)):Option kM :=
 match parts with
 | []=>some (.agg zero)
 | (i,v)::rest=>match places[i]? with
  | some (off,n)=>if v.pL=false∧v.cells.length=n∧off+n≤zero.length then lS (putCells zero off v.cells) places rest else none
  | none=>none
def tS (len sz:Nat) (zero:List kM) (parts:List (Nat×kM)):Option (List (List kM)) :=
 match lS (aj3 len zero).flatten ((List.range len).map fun i=>(i * sz,sz)) parts with
 | some (.agg cs)=>match n_ cs with
  | some row=>if zero.length=sz∧cs.all kM.mD then some (rowsOf len sz row) else none
  | none=>none
 | _=>none
def kW (len sz:Nat) (zero:List kM) (parts:List (Nat×kM)) (h:kP):Option (kM×kP) :=
 match tS len sz zero parts with
 | some rows=>some (.slice rows (.own h.length),h++[.front len sz])
 | none=>none
def Hj (len sz:Nat) (zero:List kM) (parts:List (Nat×kM)) (h:kP):Option (kM×kP) :=
 match lS (aj3 len zero).flatten ((List.range len).map fun i=>(i * sz,sz)) parts with
 | some (.agg cs)=>if zero.length=sz∧cs.all kM.mD then some (.vslice h.length len 0 len sz,h++[.vec len sz cs]) else none
 | _=>none
def DY (len sz:Nat) (zero:List kM) (parts:List (Nat×kM)) (h:kP):Option (kM×kP) :=
 match tS len sz zero parts with
 | some rows=>some (.vslice h.length len 0 len sz,h++[.vec len sz rows.flatten])
 | none=>Hj len sz zero parts h
def qW (id len sz:Nat) (zero:List kM) (parts:List (Nat×kM)) (h:kP):Option (kM×kP) :=
 match h[id]?,tS len sz zero parts with
 | some .free,some rows=>some (.slice rows (.own id),h.set id (.front len sz))
 | _,_=>none
def Ce (sz bytes:Nat) (zero:List kM) (len:kM) (h:kP):Option (kM×kP) :=
 match len with
 | .int _ n=>if 0≤n∧n.toNat * bytes≤140737488355328∧n≤140737488355328
   then some (.mslice h.length 0 n.toNat sz,h++[.cells (aj3 n.toNat zero).flatten]) else none
 | _=>none
def zM (sz bytes:Nat) (zero:List kM) (len:kM) (h:kP):Option (kM×kP) :=
 match len with
 | .int _ n=>if 0≤n∧n.toNat * bytes≤140737488355328∧n≤140737488355328
   then some (.vslice h.length n.toNat 0 n.toNat sz,h++[.vec n.toNat sz (aj3 n.toNat zero).flatten]) else none
 | _=>none
def Wd (h:kP) (d s:kM):Option (kM×kP) :=
 match d,s with
 | .vslice id tot off len 1,.str bs=>match qC h id tot with
  | some x=>if off+len≤x.2.length∧x.1=1 then some (.int .i64 (min bs.length len:Nat),h.set id (.vec tot 1 (putCells x.2 off ((bs.take len).map fun b=>.int .u8 b.toNat)))) else none
  | none=>none
 | _,_=>none
def bytesOf:List (List kM)→Option (List UInt8)
 | []=>some []
 | [.int .u8 n]::r=>match bytesOf r with
  | some bs=>some (UInt8.ofNat n.toNat::bs)
  | none=>none
 | _=>none
def xE (x:kM):Option kM :=
 match x with
 | .slice rows _=>(bytesOf rows).map .str
 | _=>none
def Fx (h:kP) (x:kM):Option kM :=
 match x with
 | .vslice id tot off len sz=>match pY 1 h (.vslice id tot off len sz) with
  | some rows=>(bytesOf rows).map .str
  | none=>none
 | .mslice id off len sz=>match pY 1 h (.mslice id off len sz) with
  | some rows=>(bytesOf rows).map .str
  | none=>none
 | x=>xE x
def tC:List UInt8→UInt8→Int
 | [],_=>-1
 | b::l,c=>if b == c then 0 else if tC l c == -1 then -1 else tC l c+1
def azM:amR→List kM→Option kM
 | .indexByte,[.str s,.int .u8 c]=>some (.int .i64 (tC s (UInt8.ofNat c.toNat)))
 | _,_=>none
def oL:TypeDesc→kM→Bool
 | .int k,.int k' _=>k == k'
 | .string,.str _=>true
 | .bool,.bool _=>true
 | _,_=>false
def IU:kM→Bool
 | .int _ _ | .str _ | .bool _=>true
 | _=>false
def CQ (k:kM):List (kM×kM)→Option (Option kM)
 | []=>some none
 | (k',v)::r=>match F9 k k' with
  | some true=>some (some v)
  | some false=>CQ k r
  | none=>none
def BJ (k v:kM):List (kM×kM)→List (kM×kM)
 | []=>[(k,v)]
 | (k',v')::r=>match F9 k k' with
  | some true=>(k',v)::r
  | _=>(k',v')::BJ k v r
def BI (k:kM):List (kM×kM)→List (kM×kM)
 | []=>[]
 | (k',v')::r=>match F9 k k' with
  | some true=>r
  | _=>(k',v')::BI k r
def zC (h:kP):kM→Option (List (kM×kM))
 | .nilmap=>some []
 | .map id=>match h[id]? with
  | some (.map es)=>some es
  | _=>none
 | _=>none
def q7 (zero:kM) (ok:Bool) (h:kP) (m k:kM):Option kM :=
 match zC h m with
 | some es=>match CQ k es with
  | some (some v)=>some (bif ok then .tuple [v,.bool true] else v)
  | some none=>some (bif ok then .tuple [zero,.bool false] else zero)
  | none=>none
 | none=>none
def Ad (h:kP) (m k v:kM):Option kP :=
 match m with
 | .map id=>match h[id]? with
  | some (.map es)=>match CQ k es with
   | some _=>some (h.set id (.map (BJ k v es)))
   | none=>none
  | _=>none
 | _=>none
def DZ (h:kP) (m k:kM):Option kP :=
 match m with
 | .nilmap=>if IU k then some h else none
 | .map id=>match h[id]? with
  | some (.map es)=>if IU k∧(CQ k es).isSome then some (h.set id (.map (BI k es))) else none
  | _=>none
 | _=>none
def IS (h:kP) (m:kM):Option kP :=
 match m with
 | .nilmap=>some h
 | .map id=>match h[id]? with
  | some (.map _)=>some (h.set id (.map []))
  | _=>none
 | _=>none
def Ax:List (List kM)→Option (List UInt8)
 | []=>some []
 | [.int .u8 n]::r=>if 0≤n∧n < 256 then(match Ax r with
  | some bs=>some (UInt8.ofNat n.toNat::bs)
  | none=>none) else none
 | _=>none
def azT (h:kP) (id:Nat):Option (List kM) :=
 match h[id]? with
 | some (.cells cs)=>some cs
 | some (.tcells _ cs)=>some cs
 | _=>none
def afU (e:Nat) (h:kP) (s:kM):Option (vG×kP) :=
 match s with
 | .slice [] .nil=>some (.ret (.str []),h)
 | .slice rows (.own fid)=>match h[fid]? with
  | some (.front n sz t)=>bif rows.length == n then(match n with
   | 0=>bif sz == 0 then some (.ret (.str []),h) else none
   | _+1=>bif sz == 1 && t == e+1 then(match Ax rows with
    | some bs=>some (.ret (.str bs),h.set fid .gone)
    | none=>none) else none) else none
  | _=>none
 | _=>none
def Ew (bld:Nat→Nat→Nat→Bool) (k:anE) (args:List kM) (h:kP):Option (vG×kP) :=
 match k with
 | .copyCheck=>match args with
  | [.ptr id off]=>match BT h id with
   | some x=>bif bld x.1 off x.2.length then(match x.2[off]? with
    | some .nilptr=>some (.ret (.tuple []),h.set id (.tcells x.1 (putCells x.2 off [.ptr id off])))
    | some (.ptr id' off')=>if id'=id∧off'=off then some (.ret (.tuple []),h.set id (.tcells x.1 (putCells x.2 off [.ptr id off]))) else none
    | _=>none) else none
   | none=>none
  | _=>none
 | .bldString e=>match args with
  | [.ptr id off]=>match azT h id with
   | some cs=>match cs[off+1]? with
    | some s=>afU e h s
    | none=>none
   | none=>none
  | _=>none
 | .fn g=>(g args).map fun v=>(.ret v,h)
end
section
noncomputable section
open Go
def Et (t:Nat):Nat:=1 <<< t
def ajN (o:Oper):Nat:=o.op.operands.toList.foldl (fun m x=>match x with | .tmp t=>m ||| Et t | _=>m) 0
def azF (o:Oper):Nat:=match o.dst with | some d=>Et d | none=>0
def aw8 (full:Nat):List Oper→Nat×Nat→Nat×Nat
 | [],a=>a
 | o::r,(u,d)=>aw8 full r (u ||| (ajN o &&& (full ^^^ d)),d ||| azF o)
def HG (id:Nat):Code→Bool
 | .exit j=>j == id
 | .seq a b | .cond _ a b=>HG id a || HG id b
 | .block _ c | .loop c | .scope c=>HG id c
 | _=>false
def leaves:List Nat→Code→Bool
 | ids,.exit j=>!(ids.contains j)
 | ids,.seq a b | ids,.cond _ a b=>leaves ids a || leaves ids b
 | ids,.block id c=>leaves (id::ids) c
 | ids,.loop c=>leaves ids c
 | ids,.scope c=>leaves ids c
 | _,.skip | _,.region _ _ _ | _,.label _=>false
 | _,_=>true
def ajM (o:Oper):Bool:=match o.op with | .panic _=>true | _=>false
def zQ:Code→Bool
 | .skip=>true
 | .region _ ops _=>!(ops.toList.any ajM)
 | .seq a b=>zQ a && zQ b
 | .cond _ a b=>zQ a || zQ b
 | .block id c=>zQ c || HG id c
 | .scope c=>zQ c
 | .label _=>true
 | _=>false
def Dm (id:Nat):Code→Nat
 | .exit j=>bif j == id then 1 else 0
 | .seq a b=>Dm id a+Dm id b
 | .cond _ a b=>bif zQ a && zQ b then(bif leaves [] a || leaves [] b then 1 else 0) else Dm id a+Dm id b
 | .block j c=>bif decide (2≤Dm j c+bif zQ c then 1 else 0) then 1 else Dm id c
 | .loop _=>1
 | .scope c=>Dm id c
 | _=>0
def ud (full:Nat):Code→Nat×Nat
 | .skip=>(0,0)
 | .region _ ops _=>aw8 full ops.toList (0,0)
 | .seq a b=>let (u,d):=ud full a; let (u',d'):=ud full b; (u ||| (u' &&& (full ^^^ d)),d ||| d')
 | .cond c a b=>let (u,d):=ud full a; let (u',d'):=ud full b
  ((match c with | .tmp t=>Et t | _=>0) ||| u ||| u',(bif zQ a then d else full) &&& (bif zQ b then d' else full))
 | .block id c=>let (u,d):=ud full c; (u,bif HG id c then 0 else d)
 | .loop c=>((ud full c).1,full)
 | .scope c=>ud full c
 | .label _=>(0,0)
 | _=>(0,full)
def ue (full:Nat) (c:Code):Nat:=(ud full c).1
def y4 (L:Nat):Nat→List kM→List kM
 | _,[]=>[]
 | i,v::r=>bif L.testBit i then v::y4 L (i+1) r else y4 L (i+1) r
def pack (L:Nat) (ρ:List kM):List kM:=y4 L 0 ρ
def unpackFrom (L:Nat) (x:List kM):Nat→Nat→Nat→List kM
 | 0,_,_=>[]
 | n+1,i,j=>bif L.testBit i then x.getD j .junk::unpackFrom L x n (i+1) (j+1) else .junk::unpackFrom L x n (i+1) j
def unpack (n L:Nat) (x:List kM):List kM:=unpackFrom L x n 0 0
def Ex.lV (e:Ex) (kn:Option R) (ke:Ex→Option R):Option R :=
 match e with
 | .normal=>kn
 | e=>ke e
def Ex.uC (e:Ex) (kn:Option R):Option R :=
 match e with
 | .normal=>kn
 | _=>none
def Ex.inBlock (id:Nat) (e:Ex) (kn:Option R) (ke:Ex→Option R):Option R :=
 match e with
 | .normal=>kn
 | .exit j=>bif j == id then kn else ke (.exit j)
 | e=>ke e
def kU (x:Option (vG×kP)) (kv kp:kM→kP→Option R):Option R :=
 x.bind fun r=>match r.1 with
  | .ret v=>kv v r.2
  | .pan v=>kp v r.2
def kQ (x:Option (kM×kP)) (k:kM→kP→Option R):Option R:=x.bind fun r=>k r.1 r.2
def lF (v:kM) (t e:Option R):Option R :=
 match v with
 | .bool b=>bif b then t else e
 | _=>none
def t_ (P:Program) (t:TypeId):Option Bool :=
 match P.underlying t with
 | some (.struct _) | some (.array _ _)=>some true
 | some _=>some false
 | none=>none
def oU (P:Program) (t:TypeId):Option Nat:=(P.info? t).map (·.size)
def zA (P:Program) (t:TypeId):Option Nat:=(P.info? t).map (·.bytes)
def tA (P:Program) (t:TypeId):Option kM:=(P.info? t).bind fun i=>i.zero.map ofConst
def Dy (P:Program) (Ry:TypeId→Option (List Kd)):List Field→Nat→Option (List Kd)
 | [],_=>some []
 | f::r,off=>bif f.name == "_" || f.offset != off then none else match Ry f.type with
  | some ks=>bif oU P f.type == some ks.length && ks.length != 0 then match Dy P Ry r (off+ks.length) with
    | some l=>some (ks++l)
    | none=>none
   else none
  | none=>none
def Aj (P:Program):Nat→TypeId→Option (List Kd)
 | 0,_=>none
 | d+1,t=>match P.underlying t with
  | some .bool=>some [.b]
  | some (.int _)=>some [.i]
  | some .string=>some [.s]
  | some (.struct fs)=>bif P.stoodInHeld t then none else Dy P (Aj P d) fs.toList 0
  | _=>none
def Hv (P:Program) (t:TypeId):Option (List Kd) :=
 match Aj P 12 t with
 | some ks=>bif P.eqGuardType P.depth t then none else some ks
 | none=>none
def DL:Operand→Bool
 | .const (.slice none 0 0)=>true
 | _=>false
def rP (o:Oper):Bool :=
 match o.op with
 | .alloc _ | .box .. | .buildSlice .. | .makeSlice .. | .makeMap .. | .store .. | .mapUpdate .. | .insert .. | .panic _=>true
 | .assign x=>DL x
 | .call c=>match c.callee with
  | .builtin .len | .builtin .cap | .builtin .min | .builtin .max=>false
  | _=>true
 | _=>false
def x_ (o:Oper):Option Operand :=
 match o.op with
 | .load _ a=>some a
 | .lookup _ m _ _=>some m
 | _=>none
def MN:List Oper→List Nat→List Nat
 | [],acc=>acc
 | o::r,acc=>MN r (acc++[o.after.toList.foldl (fun m e=>bif Region.binds .any e then m ||| Et e.on ||| acc.getD e.on 0 else m) 0])
def Pm (ops:List Oper):List Nat:=MN ops []
def at5 (a b:Nat):Bool:=(a &&& b) == a
def SA (ok:Nat→Bool) (cl:List Nat) (done:Nat):List Nat→Option Nat
 | []=>none
 | i::r=>bif !(done.testBit i) && at5 (cl.getD i 0) done && ok i then some i else SA ok cl done r
structure Item where
 i:Nat
 o:Oper
 locks:List Nat
 rsv:Option Nat:=none
 hid:Bool:=false
def u4 (o:Oper):Bool:=o.guard.isNone && match o.op with | .alloc _ | .box .. | .buildSlice ..=>true | _=>false
def Ap (o:Oper):Bool:=o.guard.isNone && match o.op with | .call c=>(match c.callee with | .value _=>true | _=>false) | _=>false
def aw9 (cl:List Nat) (i j:Nat):Bool:=(i != j) && !((cl.getD i 0).testBit j) && !((cl.getD j 0).testBit i)
def as0 (f:Oper→Bool) (ops:List Oper) (i:Nat):Bool:=match ops[i]? with | some o=>f o | none=>false
def MX (ops:List Oper) (cl:List Nat):List Nat :=
 (List.range ops.length).filter fun i=>as0 u4 ops i && (List.range ops.length).any fun j=>as0 rP ops j && aw9 cl i j
def LM:List Nat→Nat→Nat→Option Nat
 | [],_,_=>none
 | a::r,i,k=>bif a == i then some k else LM r i (k+1)
def DD (ops:List Oper) (cl fl:List Nat):List Nat→List Nat→List Item
 | [],_=>[]
 | i::r,before=>match ops[i]? with
  | some o =>
   {i,o,locks:=bif rP o then before.filter (fun p=>!((cl.getD i 0).testBit p) && match ops[p]? with | some q=>(x_ q).isSome | none=>false) else [],
    rsv:=LM fl i 0,hid:=Ap o && fl.any (aw9 cl i) } ::
    DD ops cl fl r (before++[i])
  | none=>[]
def AU (o:Oper):List Tmp:=o.op.operands.toList.filterMap fun x=>match x with | .tmp t=>some t | _=>none
def azR (ops:List Oper) (o:Oper):Option Tmp:=match o.guard with
 | some (j,_)=>(ops[j]?).bind (·.dst)
 | none=>none
def Dj (ops:List Oper) (o:Oper):List Tmp:=AU o++(azR ops o).toList
def ajG (d:Option Tmp) (ts:List Tmp):Bool:=match d with
 | some d=>!(ts.contains d)
 | none=>true
def Rl (ops:List Oper) (x y:Oper):Bool :=
 ajG x.dst (Dj ops y) && ajG y.dst (Dj ops x) && ajG x.dst y.dst.toList
def indep (ops:List Oper) (p it:Item):Bool :=
 Rl ops p.o it.o && match p.rsv,it.rsv with
 | some a,some b=>a != b
 | some _,none=>bif it.hid then true else !(rP it.o) && (x_ it.o).isNone
 | none,some _=>bif p.hid then p.locks.isEmpty else !(rP p.o) && p.locks.isEmpty
 | none,none=>bif p.hid then p.locks.isEmpty && (!it.hid && (!(rP it.o) && (x_ it.o).isNone))
   else !(rP p.o) && p.locks.isEmpty && (!((x_ p.o).isSome) || !(rP it.o) || it.locks.contains p.i)
def NU (ops:List Oper) (cl:List Nat) (p it:Item):Bool :=
 (p.i != it.i) && !((cl.getD p.i 0).testBit it.i) && ((cl.getD it.i 0).testBit p.i || indep ops p it)
def Eh (ops:List Oper) (cl:List Nat):List Item→Bool
 | []=>true
 | p::r=>r.all (NU ops cl p) && Eh ops cl r
def Rv (ops:List Oper):Bool :=
 (ops.zipIdx).all fun(o,i)=>o.after.toList.all fun e=>!(Region.binds .any e) || decide (e.on < i)
def LI (ops:List Oper) (cl fl:List Nat) (n:Nat):Nat→Nat→List Nat
 | 0,_=>[]
 | fuel+1,done =>
  let light (i:Nat):Bool:=match ops[i]? with | some o=>!(rP o) | none=>false
  match SA light cl done (List.range n) with
  | some i=>i::LI ops cl fl n fuel (done ||| Et i)
  | none=>match SA (fun i=>fl.contains i) cl done (List.range n) with
   | some i=>i::LI ops cl fl n fuel (done ||| Et i)
   | none=>match SA (fun _=>true) cl done (List.range n) with
    | some i=>i::LI ops cl fl n fuel (done ||| Et i)
    | none=>[]
def Zy (ops:List Oper):List Nat:=LI ops (Pm ops) (MX ops (Pm ops)) ops.length ops.length 0
def D3 (ops:List Oper):Option (List Item) :=
 let items:=DD ops (Pm ops) (MX ops (Pm ops)) (Zy ops) []
 bif Eh ops (Pm ops) items && Rv ops && (items.length == ops.length) && (List.range ops.length).all (fun i=>items.any fun it=>it.i == i) then some items else none
def sF (ops:List Oper):List Item:=ops.zipIdx.map fun(o,i)=>{ i,o,locks:=[] }
def pK:kM→Option Nat
 | .ptr id _=>some id
 | .vptr id _ _=>some id
 | .map id=>some id
 | _=>none
def kY (locks:List Nat) (seen:List kM):List Nat:=locks.filterMap fun j=>pK (seen.getD j .junk)
def oB (h:kP) (id:Nat):kP :=
 match h[id]? with
 | some (.cells _) | some (.map _) | some (.vec _ _ _) | some (.tcells _ _)=>h.set id .gone
 | _=>h
def mL (h:kP) (r:kP) (id:Nat):kP :=
 match h[id]? with
 | some (.cells cs)=>r.set id (.cells cs)
 | some (.vec tot sz cs)=>r.set id (.vec tot sz cs)
 | some (.map es)=>r.set id (.map es)
 | some (.tcells t cs)=>r.set id (.tcells t cs)
 | _=>r
def nL (ids:List Nat) (h:kP):kP:=ids.foldl oB h
def lP (ids:List Nat) (h h':kP):kP:=ids.foldl (mL h) h'
def zO (t:Nat) (z:kM):kM→Option kM
 | .iface t' w=>some (bif t' == t then .tuple [w,.bool true] else .tuple [z,.bool false])
 | .niliface=>some (.tuple [z,.bool false])
 | _=>none
def CF.auL (A:CF) (f t:Nat):Bool:=A.vec f || A.vecT f t
def CF.ZV (A:CF) (f t:Nat):Bool:=A.vlit f || A.vlitT f t
structure Cx where
 P:Program
 A:CF
 K:lB
 lp:(List kM×kP→Option R)→List kM×kP→Option R
 n:Nat
 full:Nat
 pan:Bool:=false
 vec:Nat→Bool:=fun _=>false
 frz:Bool:=false
 vlit:Nat→Bool:=fun _=>false
 vmk:Bool:=false
 jt:Bool:=false
 lkp:Bool:=false
 rb:Bool:=false
 frl:Bool:=false
 tb:Bool:=false
 ck:Bool:=false
def BG:kM→Option (Nat×List kM×List kM)
 | .func f first cap=>some (f,first,cap)
 | _=>none
def afK (P:Program) (t:TypeId) (name:String):Option Nat :=
 match P.info? t with
 | some i=>match i.methods.find? (·.name == name) with
  | some m=>bif m.path.toList.isEmpty then(match m.func with
   | some (f,false)=>match P.underlying t with
    | some (.struct _)=>some f
    | _=>none
   | _=>none) else none
  | none=>none
 | none=>none
def Rf (P:Program) (name:String):kM→Option (Nat×kM)
 | .iface t w=>(afK P t name).map fun f=>(f,w)
 | _=>none
def kZ:kM→Option kM
 | .ptr id off=>some (.ptr id off)
 | .vptr id tot off=>some (.vptr id tot off)
 | .pptr cs=>some (.pptr cs)
 | .func f a b=>some (.func f a b)
 | _=>none
def vS (id n:Nat) (h:kP) (v:kM):Option (kM×kP) :=
 let vs:=v.cells
 match h[id]? with
 | some .free=>if vs.length=n∧vs.all kM.mD then some (.ptr id 0,h.set id (.cells vs)) else none
 | _=>none
def A4 (A:CF) (f:Nat) (vs:List kM):List kM:=bif A.grow f then vs else vs.map kM.mV
def EM (x:kM) (h:kP) (kp:kM→kP→Option R):Option R :=
 match x with
 | .iface t w=>kp (.iface t w) h
 | _=>none
def Kr (P:Program) (t:TypeId):Option TypeId :=
 match P.underlying t with
 | some (.slice e)=>some e
 | _=>none
def agR (k:amR) (args:List kM) (h:kP):Option (vG×kP):=(azM k args).map fun v=>(.ret v,h)
def CV (A:CF) (K:lB) (f:Nat) (args:List kM) (h:kP):Option (vG×kP) :=
 match A.ext f with
 | some k=>agR k args h
 | none=>K f args h
def Xx:Operand→Operand→Bool
 | .tmp a,.tmp b=>a == b
 | .const (.int _ a),.const (.int _ b)=>a == b
 | _,_=>false
def tU (cx:Cx) (b:Builtin) (argTypes:List TypeId) (args:List kM) (h:kP) (kv:kM→kP→Option R):Option R :=
 match b,argTypes,args with
 | .len,[t],[x]=>match cx.P.underlying t with
  | some (.array n _)=>kv (.int .i64 n) h
  | some .string=>(nQ x).bind fun w=>kv w h
  | some (.slice _)=>(mN x).bind fun w=>kv w h
  | _=>none
 | .min,_,[x,y]=>(Ho x y).bind fun w=>kv w h
 | .max,_,[x,y]=>(CS x y).bind fun w=>kv w h
 | .min,_,x::y::z::r=>(T0 x (y::z::r)).bind fun w=>kv w h
 | .max,_,x::y::z::r=>(Kg x (y::z::r)).bind fun w=>kv w h
 | .append,[t,t'],[s,x]=>match Kr cx.P t with
  | some e=>bif t != t' then(match cx.P.underlying t',oU cx.P e,zA cx.P e,tA cx.P e with
   | some .string,some sz,some by_,some z=>bif z.pL then none else kQ (AN (e+1) sz by_ z.cells.length h s x) kv
   | _,_,_,_=>none) else match oU cx.P e,zA cx.P e,tA cx.P e with
   | some sz,some by_,some z=>bif sz == 0 || z.pL || z.cells.length != sz then none else kQ (bif cx.vec t then yV sz by_ h s x else bif cx.tb then yU (e+1) sz by_ h s x else mG sz by_ h s x) kv
   | _,_,_=>none
  | none=>none
 | .copy,[t,t'],[d,x]=>match Kr cx.P t,cx.P.underlying t' with
  | some e,some .string=>match oU cx.P e,tA cx.P e with
   | some 1,some (.int .u8 _)=>kQ (Wd h d x) kv
   | _,_=>none
  | _,_=>none
 | .delete,[t,_],[m,k]=>match cx.P.underlying t with
  | some (.map kt _)=>match cx.P.underlying kt with
   | some d=>bif oL d k then(DZ h m k).bind fun h'=>kv (.tuple []) h' else none
   | none=>none
  | _=>none
 | .clear,[t],[x]=>match cx.P.underlying t with
  | some (.slice e)=>match oU cx.P e,tA cx.P e with
   | some sz,some z=>bif z.pL then none else(Wb sz z.cells h x).bind fun h'=>kv (.tuple []) h'
   | _,_=>none
  | some (.map _ _)=>(IS h x).bind fun h'=>kv (.tuple []) h'
  | _=>none
 | _,_,_=>none
def oJ (cx:Cx) (o:Oper) (rsv:Option Nat) (v:Operand→kM) (h:kP) (kv:kM→kP→Option R) (kp:kM→kP→Option R):Option R :=
 match o.op with
 | .move x=>kv (v x) h
 | .assign x=>bif DL x then kv (.slice [] (.own h.length)) (h++[.front 0 0]) else kv (v x) h
 | .pick c a b=>(lN (v c) (v a) (v b)).bind fun w=>kv w h
 | .alloc t=>match oU cx.P t,tA cx.P t with
  | some n,some z=>match rsv with
   | none=>kQ (Ym (cx.A.tbt t) t n h z) kv
   | some id=>kQ (vS id n h z) kv
  | _,_=>none
 | .box t x=>match oU cx.P t with
  | some n=>match rsv with
   | none=>kQ (Ym (cx.A.tbt t) t n h (v x)) kv
   | some id=>kQ (vS id n h (v x)) kv
  | none=>none
 | .build t parts=>match tA cx.P t,cx.P.underlying t with
  | some z,some (.struct fs) =>
   match fs.toList.mapM (fun f=>(oU cx.P f.type).map fun n=>(f.offset,n)) with
   | some places=>bif z.pL then none else(lS z.cells places (parts.toList.map fun p=>(p.1,v p.2))).bind fun w=>kv w h
   | none=>none
  | some z,some (.array len e)=>match oU cx.P e with
   | some n=>bif z.pL then none else(lS z.cells ((List.range len).map fun i=>(i * n,n)) (parts.toList.map fun p=>(p.1,v p.2))).bind fun w=>kv w h
   | none=>none
  | _,_=>none
 | .buildSlice t len parts=>match Kr cx.P t with
  | some e=>match oU cx.P e,tA cx.P e with
   | some n,some z=>bif n == 0 || z.pL || decide (len * n > 16777216) then none else match rsv with
    | none=>kQ (bif cx.vlit t then DY len n z.cells (parts.toList.map fun p=>(p.1,v p.2)) h else kW len n z.cells (parts.toList.map fun p=>(p.1,v p.2)) h) kv
    | some id=>kQ (qW id len n z.cells (parts.toList.map fun p=>(p.1,v p.2)) h) kv
   | _,_=>none
  | none=>none
 | .load t a=>match t_ cx.P t,oU cx.P t with
  | some g,some n=>(IV cx.tb g n h (v a)).bind fun w=>bif cx.rb && cx.frl then kQ (Mv h w) kv else kv w h
  | _,_=>none
 | .store t a x=>match oU cx.P t with
  | some n=>bif cx.frz then(rY h (v x)).bind fun y=>(kR n y.2 (v a) y.1).bind fun h'=>kv (.tuple []) h' else(Yq cx.tb n h (v a) (v x)).bind fun h'=>kv (.tuple []) h'
  | none=>none
 | .nilCheck x=>(kZ (v x)).bind fun w=>kv w h
 | .binOp op t x y _=>match op,cx.P.underlying t with
  | .eql,some (.struct _)=>match Hv cx.P t with
   | some ks=>(rX ks (v x) (v y)).bind fun b=>kv (.bool b) h
   | none=>none
  | .neq,some (.struct _)=>match Hv cx.P t with
   | some ks=>(rX ks (v x) (v y)).bind fun b=>kv (.bool (!b)) h
   | none=>none
  | _,some .bool=>(Gd op (v x) (v y)).bind fun w=>kv w h
  | _,some (.int _) | _,some .string=>(kV op (v x) (v y)).bind fun w=>kv w h
  | _,_=>none
 | .unOp op _ x=>(vT op (v x)).bind fun w=>kv w h
 | .convert s d x=>match cx.P.underlying s,cx.P.underlying d with
  | some (.int _),some (.int k)=>(vR k (v x)).bind fun w=>kv w h
  | some (.slice e),some .string=>match cx.P.underlying e with
   | some (.int .u8)=>(bif cx.rb then Fx h (v x) else xE (v x)).bind fun w=>kv w h
   | _=>none
  | _,_=>none
 | .makeMap _ none=>kv (.map h.length) (h++[.map []])
 | .makeSlice t l c=>match Kr cx.P t with
  | some e=>match oU cx.P e,zA cx.P e,tA cx.P e with
   | some n,some by_,some z=>bif n == 0 || z.pL || z.cells.length != n || !(z.cells.all kM.mD) || !(Xx l c) then none else kQ (bif cx.vmk then zM n by_ z.cells (v l) h else Ce n by_ z.cells (v l) h) kv
   | _,_,_=>none
  | none=>none
 | .lookup t m k ok=>match cx.P.underlying t with
  | some (.map kt e)=>match cx.P.underlying kt,tA cx.P e with
   | some d,some z=>bif oL d (v k) then(q7 z ok h (v m) (v k)).bind fun w=>kv w h else none
   | _,_=>none
  | _=>none
 | .mapUpdate t m k x=>match cx.P.underlying t with
  | some (.map kt _)=>match cx.P.underlying kt with
   | some d=>bif oL d (v k) then(Ad h (v m) (v k) (v x)).bind fun h'=>kv (.tuple []) h' else none
   | none=>none
  | _=>none
 | .makeInterface t x=>match cx.P.underlying t with
  | some (.interface _)=>none
  | some _=>kv (.iface t (v x)) h
  | none=>none
 | .makeFunc (.func f) first cap=>kv (.func f (first.toList.map v) (cap.toList.map v)) h
 | .slice t x lo hi none=>match cx.P.underlying t with
  | some .string=>(oK (v x) (lo.map v) (hi.map v)).bind fun w=>kv w h
  | some (.slice e)=>match oU cx.P e with
   | some n=>(uT n (v x) (lo.map v) (hi.map v)).bind fun w=>kv w h
   | none=>none
  | some (.array len e)=>match oU cx.P e with
   | some n=>(IY len n (v x) (lo.map v) (hi.map v)).bind fun w=>kv w h
   | none=>none
  | _=>none
 | .fieldAddr s x f=>match cx.P.underlying s with
  | some (.struct fs)=>match fs[f]? with
   | some fd=>match oU cx.P fd.type with
    | some (_+1)=>(kO fd.offset (v x)).bind fun w=>kv w h
    | _=>none
   | none=>none
  | _=>none
 | .field t x f=>match cx.P.underlying t with
  | some (.struct fs)=>match fs[f]? with
   | some fd=>match t_ cx.P fd.type,oU cx.P fd.type with
    | some g,some n=>(sP g n fd.offset (v x)).bind fun w=>kv w h
    | _,_=>none
   | none=>none
  | _=>none
 | .indexAddr t x i=>match cx.P.underlying t with
  | some (.slice e)=>match oU cx.P e with
   | some (n+1)=>(kX (n+1) (v x) (v i)).bind fun w=>kv w h
   | _=>none
  | some (.array len e)=>match oU cx.P e with
   | some (n+1)=>(Cd len (n+1) (v x) (v i)).bind fun w=>kv w h
   | _=>none
  | _=>none
 | .index t x i=>match cx.P.underlying t with
  | some .string=>(m_ (v x) (v i)).bind fun w=>kv w h
  | some (.array len e)=>match t_ cx.P e,oU cx.P e with
   | some g,some n=>(IT g len n (v x) (v i)).bind fun w=>kv w h
   | _,_=>none
  | _=>none
 | .extract x i=>(lH i (v x)).bind fun w=>kv w h
 | .typeAssert x _ t true=>match cx.P.underlying t with
  | some (.interface _)=>none
  | some _=>match tA cx.P t with
   | some z=>(zO t z (v x)).bind fun w=>kv w h
   | none=>none
  | none=>none
 | .panic x=>EM (v x) h kp
 | .call c=>match c.callee with
  | .builtin b=>tU cx b c.argTypes.toList (c.args.toList.map v) h kv
  | .value f=>(BG (v f)).bind fun g=>kU (CV cx.A cx.K g.1 (A4 cx.A g.1 (g.2.1++c.args.toList.map v++g.2.2)) h) kv kp
  | .invoke x name=>(Rf cx.P name (v x)).bind fun g=>kU (CV cx.A cx.K g.1 (A4 cx.A g.1 (g.2::c.args.toList.map v)) h) kv kp
 | _=>none
def evalOp (cx:Cx) (o:Oper) (rsv:Option Nat) (ρ:List kM) (h:kP) (kv:kM→kP→Option R) (kp:kM→kP→Option R):Option R:=oJ cx o rsv (tD cx.A ρ) h kv kp
def sH (ρ:List kM) (dst:Option Tmp) (v:kM):List kM :=
 match dst with
 | some d=>ρ.set d v
 | none=>ρ
open Classical in
def IE:List Nat→kP→kP→Option R→Option R
 | [],_,_,x=>x
 | id::r,h,h',x=>if ∀b,h[id]?=some b→h'[id]?=some b then IE r h h' x else none
def oE (cx:Cx) (o:Oper) (ids:List Nat) (ρ:List kM) (h:kP) (kv:kM→kP→Option R) (kp:kM→kP→Option R):Option R :=
 bif cx.ck then evalOp cx o none ρ h (fun v h'=>IE ids h h' (kv v h')) kp
 else evalOp cx o none ρ (nL ids h) (fun v h'=>kv v (lP ids h h')) (fun v h'=>kp v (lP ids h h'))
def nT (kv kp:kM→kP→Option R):R→Option R
 | (.normal,[v],h)=>kv v h
 | (.pan v,_,h)=>kp v h
 | _=>none
def nM (v:kM) (h:kP):Option R:=some (.normal,[v],h)
def yS (v:kM) (h:kP):Option R:=some (.pan v,[],h)
def lQ (want:Bool) (g:kM) (run skip:Option R):Option R :=
 match g with
 | .bool g=>bif want then(bif g then run else skip) else(bif g then skip else run)
 | .tuple []=>skip
 | _=>none
def vV (cx:Cx) (ops:List Oper) (o:Oper) (ids:List Nat) (ρ:List kM) (h:kP) (kv:kM→kP→Option R) (kp:kM→kP→Option R):Option R :=
 match o.guard with
 | none=>oE cx o ids ρ h kv kp
 | some (j,want)=>match (ops[j]?).bind (·.dst) with
  | some d=>(lQ want (ρ.getD d .junk) (oE cx o ids ρ h nM yS) (nM (.tuple []) h)).bind (nT kv kp)
  | none=>none
def seenAt (A:CF) (o:Oper) (ρ:List kM):kM:=match x_ o with
 | some a=>tD A ρ a
 | none=>.junk
def vL (m:Nat) (v:kM):kM:=bif v.nP m then v else .junk
def sS (m:Nat):lE→Bool
 | .cells cs=>cs.all (kM.nP m)
 | .vec _ _ cs=>cs.all (kM.nP m)
 | .tcells _ cs=>cs.all (kM.nP m)
 | .map es=>es.all fun e=>e.2.nP m
 | _=>true
def EY (m:Nat) (h:kP) (kv:kM→kP→Option R):R→Option R
 | (.normal,[v],h')=>bif h'.length == m then kv v (h'++h.drop m) else none
 | _=>none
def A5 (cx:Cx) (o:Oper) (m:Nat) (ids:List Nat) (ρ:List kM) (h:kP) (kv:kM→kP→Option R):Option R :=
 bif (h.take m).all (sS m) then(oE cx o ids (ρ.map (vL m)) (h.take m) nM yS).bind (EY m h kv) else none
def pH (cx:Cx) (ops:List Oper) (m:Nat) (it:Item) (ids:List Nat) (ρ:List kM) (h:kP) (kv:kM→kP→Option R) (kp:kM→kP→Option R):Option R :=
 match it.rsv with
 | some j=>bif u4 it.o then evalOp cx it.o (some (m+j)) ρ h kv (fun _ _=>none) else none
 | none=>bif it.hid then(bif Ap it.o then A5 cx it.o m ids ρ h kv else none) else vV cx ops it.o ids ρ h kv kp
def RK {α:Type}:List kM→(List kM→α)→α
 | [],k=>k []
 | x::xs,k=>RK xs fun ys=>k (x::ys)
theorem AP {α:Type}:∀{l:List kM}{k:List kM→α},RK l k=k l
 | [],_=>rfl
 | x::xs,k=>by rw [RK,AP]
def pP (cx:Cx) (ops:List Oper) (m:Nat):List Item→List kM→List kM→kP→(List kM→kP→Option R)→(kM→kP→Option R)→Option R
 | [],_,ρ,h,k,_=>k ρ h
 | it::rest,seen,ρ,h,k,kp =>
  pH cx ops m it (kY it.locks seen) ρ h (fun v h'=>RK (sH ρ it.o.dst v) fun ρ'=>pP cx ops m rest (seen.set it.i (seenAt cx.A it.o ρ)) ρ' h' k kp) kp
def H8:List Item→Nat
 | []=>0
 | it::r=>match it.rsv with | some _=>H8 r+1 | none=>H8 r
def Qd:Nat→List lE
 | 0=>[]
 | n+1=>.free::Qd n
def FX (n:Nat) (h:kP):kP :=
 match n with
 | 0=>h
 | n+1=>h++Qd (n+1)
def zB (cx:Cx) (ops:List Oper) (draw:Bool) (ρ:List kM) (h:kP) (k:List kM→kP→Option R) (kp:kM→kP→Option R):Option R :=
 match draw with
 | false=>pP cx ops 0 (sF ops) [] ρ h k kp
 | true=>match D3 ops with
  | some items=>pP { cx with rb:=false } ops h.length items (aj3 ops.length .junk) ρ (FX (H8 items) h) k kp
  | none=>none
def KO (L:Nat) (ρ:List kM) (h:kP):Option R:=some (.normal,pack L ρ,h)
def KJ (L:Nat) (e:Ex) (ρ:List kM) (h:kP):Option R:=some (e,pack L ρ,h)
def aFZ (b:Bool) (ke:Ex→List kM→kP→Option R) (ρ:List kM):kM→kP→Option R :=
 match b with
 | true=>fun v h=>ke (.pan v) ρ h
 | false=>fun _ _=>none
def Ex.vM (m:Nat) (h:kP):Ex→Ex
 | .pan v=>.pan (v.vM m h)
 | e=>e
def kS (m:Nat) (e:Ex) (vs:List kM) (h:kP):Option R:=(l9 m h).map fun h'=>(e.vM m h,vs.map (·.vM m h),h')
def Gz (j:Bool) (m L:Nat) (e:Ex) (ρ:List kM) (h:kP):Option R :=
 match j with
 | false=>some (e,pack L ρ,h)
 | true=>kS m e (pack L ρ) h
def endRound (m L:Nat) (e:Ex) (ρ:List kM) (h:kP):Option R:=kS m e (pack L ρ) h
def EP (k:Bool) (m L:Nat) (e:Ex) (ρ:List kM) (h:kP):Option R :=
 match k with
 | false=>endRound m L e ρ h
 | true=>some (e,pack L ρ,h)
def evalCode (cx:Cx):Code→Nat→List kM→kP→(List kM→kP→Option R)→(Ex→List kM→kP→Option R)→Option R
 | .skip,_,ρ,h,kn,_=>kn ρ h
 | .region _ ops draw,_,ρ,h,kn,ke=>zB cx ops.toList draw ρ h kn (aFZ cx.pan ke ρ)
 | .seq a b,L,ρ,h,kn,ke=>evalCode cx a (L ||| ue cx.full b) ρ h (fun ρ' h'=>evalCode cx b L ρ' h' kn ke) ke
 | .cond c a b,L,ρ,h,kn,ke =>
  bif zQ a && zQ b then
   (lF (tD cx.A ρ c) (evalCode cx a L ρ h (Gz cx.jt h.length L .normal) (Gz cx.jt h.length L)) (evalCode cx b L ρ h (Gz cx.jt h.length L .normal) (Gz cx.jt h.length L))).bind fun r =>
    bif cx.pan || (leaves [] a || leaves [] b) then r.1.lV (kn (unpack cx.n L r.2.1) r.2.2) fun e=>ke e (unpack cx.n L r.2.1) r.2.2
    else r.1.uC (kn (unpack cx.n L r.2.1) r.2.2)
  else lF (tD cx.A ρ c) (evalCode cx a L ρ h kn ke) (evalCode cx b L ρ h kn ke)
 | .block id c,L,ρ,h,kn,ke =>
  bif decide (2≤Dm id c+bif zQ c then 1 else 0) then
   (evalCode cx c L ρ h (Gz cx.jt h.length L .normal) (Gz cx.jt h.length L)).bind fun r=>r.1.inBlock id (kn (unpack cx.n L r.2.1) r.2.2) fun e=>ke e (unpack cx.n L r.2.1) r.2.2
  else evalCode cx c L ρ h kn fun e ρ' h'=>e.inBlock id (kn ρ' h') fun e=>ke e ρ' h'
 | .loop c,L,ρ,h,_,ke =>
  (cx.lp (fun s=>evalCode cx c (L ||| ue cx.full c) (unpack cx.n (L ||| ue cx.full c) s.1) s.2 (EP cx.lkp h.length (L ||| ue cx.full c) .normal) (EP cx.lkp h.length (L ||| ue cx.full c)))
    (pack (L ||| ue cx.full c) ρ,h)).bind
   fun r=>r.1.lV none fun e=>ke e (unpack cx.n (L ||| ue cx.full c) r.2.1) r.2.2
 | .scope c,L,ρ,h,kn,ke=>evalCode cx c L ρ h kn ke
 | .label _,_,ρ,h,kn,_=>kn ρ h
 | .exit id,_,ρ,h,_,ke=>ke (.exit id) ρ h
 | .ret,_,ρ,h,_,ke=>ke .ret ρ h
 | _,_,_,_,_,_=>none
def C9 (fn:Func):Nat:=fn.results.toList.foldl (fun m r=>match r with | .tmp t=>m ||| Et t | .cell a _=>m ||| Et a) 0
def BK (P:Program) (ρ:List kM) (h:kP):ResultVar→Option kM
 | .tmp t=>some (ρ.getD t .junk)
 | .cell a t=>match t_ P t,oU P t with
  | some g,some n=>kT g n h (ρ.getD a .junk)
  | _,_=>none
def Be (P:Program) (ρ:List kM) (h:kP):List ResultVar→(List kM→Option (vG×kP))→Option (vG×kP)
 | [],k=>k []
 | .tmp t::r,k=>Be P ρ h r fun vs=>k (ρ.getD t .junk::vs)
 | .cell a t::r,k=>match t_ P t,oU P t with
  | some g,some n=>(kT g n h (ρ.getD a .junk)).bind fun v=>Be P ρ h r fun vs=>k (v::vs)
  | _,_=>none
def oneOf:List kM→kM
 | [v]=>v
 | vs=>.tuple vs
def lY (m:Nat) (v:kM) (h:kP):Option (vG×kP):=(l9 m h).map fun h'=>(.ret (v.vM m h).mV,h')
def RJ (m:Nat) (v:kM) (h:kP):Option (vG×kP):=(l9 m h).map fun h'=>(.ret (v.vM m h),h')
def aEY (m:Nat) (v:kM) (h:kP):Option (vG×kP):=(rY h v).bind fun y=>lY m y.1 y.2
def kM.Fg (v:kM):List Nat:=match qA v with | some id=>[id] | none=>[]
def kM.refs:kM→List Nat
 | .agg cs=>cs.flatMap kM.Fg
 | v=>v.Fg
def lE.refs:lE→List Nat
 | .cells cs=>cs.flatMap kM.Fg
 | .vec _ _ cs=>cs.flatMap kM.Fg
 | .tcells _ cs=>cs.flatMap kM.Fg
 | .map es=>es.flatMap fun e=>e.2.Fg
 | _=>[]
def kM.Ju (f:Nat→Nat):kM→kM
 | .ptr id o=>.ptr (f id) o
 | .mslice id a b c=>.mslice (f id) a b c
 | .vslice id t a b c=>.vslice (f id) t a b c
 | .vptr id t o=>.vptr (f id) t o
 | .map id=>.map (f id)
 | .slice rows (.own id)=>.slice rows (.own (f id))
 | v=>v
def kM.PC (f:Nat→Nat):kM→kM
 | .agg cs=>.agg (cs.map (kM.Ju f))
 | .tuple vs=>.tuple (vs.map fun v=>match v with | .agg cs=>.agg (cs.map (kM.Ju f)) | v=>v.Ju f)
 | v=>v.Ju f
def kM.ok0 (p:Nat→Bool):kM→Bool
 | .agg _=>false
 | .tuple _=>false
 | .iface _ _=>false
 | .func _ first cap=>first.isEmpty && cap.isEmpty
 | v=>match qA v with | some r=>p r | none=>true
def kM.ok (p:Nat→Bool):kM→Bool
 | .agg cs=>cs.all (kM.ok0 p)
 | .tuple vs=>vs.all fun v=>match v with | .agg cs=>cs.all (kM.ok0 p) | v=>v.ok0 p
 | v=>v.ok0 p
def lE.PC (f:Nat→Nat):lE→lE
 | .cells cs=>.cells (cs.map (kM.Ju f))
 | .vec t s cs=>.vec t s (cs.map (kM.Ju f))
 | .tcells t cs=>.tcells t (cs.map (kM.Ju f))
 | .map es=>.map (es.map fun e=>(e.1,e.2.Ju f))
 | b=>b
def lE.ok (p:Nat→Bool):lE→Bool
 | .cells cs=>cs.all (kM.ok0 p)
 | .vec _ _ cs=>cs.all (kM.ok0 p)
 | .tcells _ cs=>cs.all (kM.ok0 p)
 | .map es=>es.all fun e=>e.2.ok0 p
 | _=>true
def vG.PC (f:Nat→Nat):vG→vG
 | .ret v=>.ret (v.PC f)
 | .pan v=>.pan (v.PC f)
def vG.ok (p:Nat→Bool):vG→Bool
 | .ret v=>v.ok p
 | .pan v=>v.ok p
def abO:List Nat→Nat→Nat
 | [],_=>0
 | a::r,i=>bif a == i then 0 else abO r i+1
def FB:List Nat→Bool
 | []=>true
 | a::r=>!(r.contains a) && FB r
def addN (acc:List Nat):List Nat→List Nat
 | []=>acc
 | i::r=>addN (bif acc.contains i then acc else acc++[i]) r
def Wp (h:kP):Nat→List Nat→List Nat
 | 0,acc=>acc
 | n+1,acc=>Wp h n (addN acc (acc.flatMap fun i=>match h[i]? with | some b=>b.refs | none=>[]))
def reach (h:kP) (args:List kM):List Nat:=Wp h 3 (addN [] (args.flatMap kM.refs))
def SD:List Nat→kP→kP→kP
 | i::is,b::bs,h=>SD is bs (h.set i b)
 | _,_,h=>h
def akX (ids:List Nat) (args:List kM) (h:kP):Bool :=
 args.all (kM.ok fun i=>ids.contains i) && (FB ids && ids.all fun i=>match h[i]? with | some b=>b.ok fun i=>ids.contains i | none=>false)
def at4 (ids:List Nat) (h:kP):kP:=ids.map fun i=>(h.getD i .free).PC (abO ids)
def SX (ids:List Nat) (h:kP) (r:vG×kP):Option (vG×kP) :=
 bif r.2.length == ids.length && (r.2.all (lE.ok fun j=>decide (j < ids.length)) && r.1.ok fun j=>decide (j < ids.length))
 then some (r.1.PC fun j=>ids.getD j 0,SD ids (r.2.map (lE.PC fun j=>ids.getD j 0)) h) else none
def finish (A:CF) (f:Nat) (m:Nat) (v:kM) (h:kP):Option (vG×kP) :=
 bif A.esc f then some (.ret v,h) else bif A.grow f then RJ m v h else bif A.frr f then aEY m v h else lY m v h
def Ex.nA (e:Ex) (x:Option (vG×kP)):Option (vG×kP) :=
 match e with
 | .normal=>x
 | .ret=>x
 | _=>none
def Ex.uZ (e:Ex) (x:Option (vG×kP)) (xp:kM→Option (vG×kP)):Option (vG×kP) :=
 match e with
 | .normal=>x
 | .ret=>x
 | .pan v=>xp v
 | _=>none
def rE (m:Nat) (v:kM) (h:kP):Option (vG×kP):=(l9 m h).map fun h'=>(.pan (v.vM m h).mV,h')
def P9 (P:Program) (A:CF) (f:Nat) (fn:Func) (m:Nat) (e:Ex) (ρ:List kM) (h:kP):Option (vG×kP) :=
 bif A.pan f then e.uZ (Be P ρ h fn.results.toList fun vs=>finish A f m (oneOf vs) h) fun v=>bif A.kp f then some (.pan v,h) else rE m v h
 else e.nA (Be P ρ h fn.results.toList fun vs=>finish A f m (oneOf vs) h)
def FD (o:Oper):Bool:=o.guard.isNone && match o.op with | .call c=>(match c.callee with | .builtin .recover=>true | _=>false) | _=>false
def YB (o:Oper):Option Operand :=
 match o.guard,o.op with
 | none,.defer c=>match c.callee with
  | .value f=>bif c.args.isEmpty && o.dst.isNone then some f else none
  | _=>none
 | _,_=>none
def DE (ops:List Oper):Option Operand:=(ops.getLast?).bind YB
def E_ (m:Nat):Code→Bool
 | .region _ ops _=>ops.toList.all fun o=>match o.dst with | some d=>!(m.testBit d) | none=>true
 | .seq a b | .cond _ a b=>E_ m a && E_ m b
 | .block _ c | .loop c=>E_ m c
 | .skip | .exit _ | .ret=>true
 | _=>false
def Ex.Rx (e:Ex) (xn:Option R) (xp:kM→Option R):Option R :=
 match e with
 | .normal=>xn
 | .ret=>xn
 | .pan v=>xp v
 | _=>none
def Ex.Wu (e:Ex) (x:Option kP):Option kP :=
 match e with
 | .normal=>x
 | .ret=>x
 | _=>none
def y8 (cx:Cx) (g:Nat) (caps:List kM) (pv:Option kM) (h:kP):Option kP :=
 match cx.P.funcs[g]? with
 | some fn=>match fn.body with
  | some (.seq (.region _ ops false) c)=>match ops.toList with
   | o::_=>bif FD o && decide (caps.length≤fn.ntmps) && fn.results.isEmpty && !(fn.name == "runtime.NumGoroutine") then
     (pP { cx with n:=fn.ntmps,full:=2 ^ fn.ntmps - 1,pan:=false } ops.toList 0 (sF ops.toList).tail []
      (sH (caps++aj3 (fn.ntmps - caps.length) (.tuple [])) o.dst (pv.getD .niliface)) h
      (fun ρ' h'=>evalCode { cx with n:=fn.ntmps,full:=2 ^ fn.ntmps - 1,pan:=false } c 0 ρ' h' (KO 0) (KJ 0)) (fun _ _=>none)).bind
      fun r=>r.1.Wu (l9 h.length r.2.2)
    else none
   | []=>none
  | _=>none
 | none=>none
def Ck (cx:Cx) (b:Code) (L:Nat) (fv:kM) (ρ:List kM) (h:kP):Option R :=
 bif E_ L b then(BG fv).bind fun g =>
  (evalCode { cx with pan:=true } b L ρ h (KO L) (KJ L)).bind fun r =>
   r.1.Rx ((y8 cx g.1 (g.2.1++g.2.2) none r.2.2).map fun h2=>(.ret,r.2.1,h2)) fun v=>(y8 cx g.1 (g.2.1++g.2.2) (some v) r.2.2).map fun h2=>(.ret,pack L ρ,h2)
 else none
def Ex.Zx (e:Ex) (x:Option R):Option R :=
 match e with
 | .ret=>x
 | _=>none
def QH (L:Nat) (e:Ex) (ρ:List kM) (h:kP):Option R:=e.Zx (some (.ret,pack L ρ,h))
def uY (cx:Cx):Code→Nat→List kM→kP→Option R
 | .seq (.region id ops false) b,L,ρ,h=>match DE ops.toList with
  | some f=>pP cx ops.toList 0 (sF ops.toList).dropLast [] ρ h (fun ρ' h'=>Ck cx b L (tD cx.A ρ' f) ρ' h') (fun _ _=>none)
  | none=>evalCode cx (.region id ops false) (L ||| ue cx.full b) ρ h (fun ρ' h'=>uY cx b L ρ' h') (QH L)
 | .seq a b,L,ρ,h=>evalCode cx a (L ||| ue cx.full b) ρ h (fun ρ' h'=>uY cx b L ρ' h') (QH L)
 | _,_,_,_=>none
def ES (cx:Cx) (d:Bool) (c:Code) (L:Nat) (ρ:List kM) (h:kP):Option R :=
 match d with
 | true=>uY { cx with pan:=false } c L ρ h
 | false=>evalCode cx c L ρ h (KO L) (KJ L)
def RD (P:Program) (A:CF) (K:lB) (lp:(List kM×kP→Option R)→List kM×kP→Option R) (f:Nat) (fn:Func) (c:Code) (args:List kM) (h:kP):Option (vG×kP) :=
 (ES { P,A,K,lp,n:=fn.ntmps,full:=2 ^ fn.ntmps - 1,pan:=A.pan f,vec:=A.auL f,frz:=A.frz f,vlit:=A.ZV f,vmk:=A.vmk f,jt:=A.jt f,lkp:=A.lkp f,rb:=A.rb f,frl:=A.frl f,tb:=A.tb f,ck:=A.ck f } (A.dfr f) c (C9 fn)
   (args++aj3 (fn.ntmps - args.length) (.tuple [])) h).bind
  fun r=>P9 P A f fn h.length r.1 (unpack fn.ntmps (C9 fn) r.2.1) r.2.2
def tW:Nat→(List kM×kP→Option R)→List kM×kP→Option R
 | 0,_,_=>none
 | n+1,F,s=>(F s).bind fun r=>r.1.lV (tW n F r.2) fun e=>some (e,r.2)
def Fe (out:Bool) (h:kP) (r:vG×kP):Option (vG×kP):=match r.2 with
 | []=>some (r.1,h)
 | _=>none
def lT (A:CF) (K:lB):lB:=fun f args h =>
 bif A.pure f then(bif args.all (kM.nP 0) then(K f args []).bind (Fe (A.out f) h) else none) else K f args h
abbrev LpT:=(List kM×kP→Option R)→List kM×kP→Option R
def o6 (P:Program) (A:CF) (lp:LpT) (K:lB) (f:Nat) (args:List kM) (h:kP):Option (vG×kP) :=
 match A.prm f with
 | some k=>Ew A.bld k args h
 | none=>match P.funcs[f]? with
  | some fn=>match fn.body with
   | some c=>bif decide (args.length≤fn.ntmps) && !(fn.name == "runtime.NumGoroutine") then RD P A (lT A K) lp f fn c args h else none
   | none=>none
  | none=>none
def Tg (P:Program) (A:CF) (lp:LpT):Nat→lB
 | 0,_,_,_=>none
 | n+1,f,args,h=>o6 P A lp (Tg P A lp n) f args h
end
end
section
open Go Go.RowKit
structure Gh where
 H:Nat→Nat→Option Value
 oP:Nat→Nat
 cur:Nat→Value
inductive rC (H:Nat→Nat→Option Value):kM→Value→Prop
 | junk (V:Value):rC H .junk V
 | bool (b:Bool):rC H (.bool b) (.bool b)
 | int (k:IntKind) (n:Int):rC H (.int k n) (.int k n)
 | str (s:List UInt8):rC H (.str s) (.string ⟨s.toArray⟩)
 | agg (cs:List kM) (C:Array Value) (hl:cs.length=C.size) (h:∀(i:Nat) (v:kM),cs[i]?=some v→rC H v (C.getD i undef)):rC H (.agg cs) (.agg C)
 | tuple (cs:List kM) (C:Array Value) (hl:cs.length=C.size) (h:∀(i:Nat) (v:kM),cs[i]?=some v→rC H v (C.getD i undef)):rC H (.tuple cs) (.tuple C)
 | slice0 (a:Option Addr) (cap:Nat):rC H (.slice [] .no) (.slice a 0 cap)
 | slice (rows:List (List kM)) (b off cap sz:Nat) (V:Nat→Value) (hr:∀r∈rows,r.length=sz) (hc:rows.length≤cap)
   (hH:∀(i j:Nat) (row:List kM) (v:kM),rows[i]?=some row→row[j]?=some v→H b (off+(i * sz+j))=some (V (i * sz+j)))
   (hk:∀(i j:Nat) (row:List kM) (v:kM),rows[i]?=some row→row[j]?=some v→v.mD=true)
   (hV:∀(i j:Nat) (row:List kM) (v:kM),rows[i]?=some row→row[j]?=some v→rC H v (V (i * sz+j))) :
   rC H (.slice rows .no) (.slice (some ⟨b,off,none⟩) rows.length cap)
 | pptr (cs:List kM) (b off:Nat) (V:Nat→Value)
   (hH:∀(j:Nat) v,cs[j]?=some v→H b (off+j)=some (V j))
   (hk:∀(j:Nat) (v:kM),cs[j]?=some v→v.mD=true)
   (hV:∀(j:Nat) v,cs[j]?=some v→rC H v (V j)):rC H (.pptr cs) (.pointer (some ⟨b,off,none⟩))
 | nilptr:rC H .nilptr (.pointer none)
 | nilmap:rC H .nilmap (.map none)
 | nilfunc:rC H .nilfunc .nilFunc
 | niliface:rC H .niliface .nilIface
 | func (f:Nat):rC H (.func f [] []) (.func (.func f) #[] #[])
 | iface (t:Nat) (v:kM) (V:Value) (h:rC H v V):rC H (.iface t v) (.iface t V)
theorem rC.mono {H H':Nat→Nat→Option Value}(hh:∀b k v,H b k=some v→H' b k=some v) {v:kM}{V:Value}(h:rC H v V):rC H' v V:=by
 induction h with
 | junk V=>exact .junk V
 | bool b=>exact .bool b
 | int k n=>exact .int k n
 | str s=>exact .str s
 | agg cs C hl _ ih=>exact .agg cs C hl ih
 | tuple cs C hl _ ih=>exact .tuple cs C hl ih
 | slice0 a cap=>exact .slice0 a cap
 | slice rows b off cap sz V hr hc hH hk _ ih=>exact .slice rows b off cap sz V hr hc (fun i j row v h1 h2=>hh _ _ _ (hH i j row v h1 h2)) hk ih
 | pptr cs b off V hH hk _ ih=>exact .pptr cs b off V (fun j v h1=>hh _ _ _ (hH j v h1)) hk ih
 | nilptr=>exact .nilptr
 | nilmap=>exact .nilmap
 | nilfunc=>exact .nilfunc
 | niliface=>exact .niliface
 | func f=>exact .func f
 | iface t v V _ ih=>exact .iface t v V ih
def live (h:kP) (id:Nat):Prop:=∃b,h[id]?=some b∧b≠.free
def At (h:kP) (id:Nat):Prop:=∃b,h[id]?=some b∧b≠.free∧∀n sz t,b≠.front n sz t
def Bp:Value→Nat
 | .slice _ n _=>n
 | _=>0
inductive lM (G:Gh) (h:kP):kM→Value→Prop
 | p (v:kM) (V:Value) (hp:rC G.H v V):lM G h v V
 | agg (cs:List kM) (C:Array Value) (hl:cs.length=C.size) (hh:∀(i:Nat) (v:kM),cs[i]?=some v→lM G h v (C.getD i undef)):lM G h (.agg cs) (.agg C)
 | tuple (cs:List kM) (C:Array Value) (hl:cs.length=C.size) (hh:∀(i:Nat) (v:kM),cs[i]?=some v→lM G h v (C.getD i undef)):lM G h (.tuple cs) (.tuple C)
 | nil:lM G h (.slice [] .nil) (.slice none 0 0)
 | own (rows:List (List kM)) (id n sz:Nat) (V:Value) (hp:rC G.H (.slice rows .no) V) {t:Nat}(hf:h[id]?=some (.front n sz t)) (hn:rows.length≤n) (hr:∀r∈rows,r.length=sz) (hc:rows.length=n→V=G.cur id):lM G h (.slice rows (.own id)) V
 | ownv {rows:List (List kM)}(id:Nat) (V:Value) (hp:rC G.H (.slice rows .no) V) (hb:At h id):lM G h (.slice rows (.own id)) V
 | vslice (id tot off len sz b cap:Nat) (hl:At h id) (ht:tot≤Bp (G.cur id)) (hc:len≤cap)
   (hv:tot=Bp (G.cur id)→∃l cap0,G.cur id=.slice (some ⟨b,0,none⟩) tot cap0∧off=l * sz∧l+len≤tot∧cap=cap0 - l):lM G h (.vslice id tot off len sz) (.slice (some ⟨b,off,none⟩) len cap)
 | vptr (id tot off b:Nat) (hl:At h id) (ht:tot≤Bp (G.cur id)) (hv:tot=Bp (G.cur id)→∃cap0,G.cur id=.slice (some ⟨b,0,none⟩) tot cap0):lM G h (.vptr id tot off) (.pointer (some ⟨b,off,none⟩))
 | ptr (id off:Nat) (hl:live h id):lM G h (.ptr id off) (.pointer (some ⟨G.oP id,off,none⟩))
 | mslice (id off len sz cap:Nat) (hl:live h id) (hc:len≤cap):lM G h (.mslice id off len sz) (.slice (some ⟨G.oP id,off,none⟩) len cap)
 | mslice0 (id off sz cap:Nat) (a:Option Addr):lM G h (.mslice id off 0 sz) (.slice a 0 cap)
 | map (id:Nat) (hl:live h id):lM G h (.map id) (.map (some (G.oP id)))
 | func (f:Nat) (first cap:List kM) (F C:Array Value) (hlf:first.length=F.size) (hlc:cap.length=C.size)
   (hf:∀(i:Nat) (v:kM),first[i]?=some v→lM G h v (F.getD i undef)) (hc:∀(i:Nat) (v:kM),cap[i]?=some v→lM G h v (C.getD i undef)):lM G h (.func f first cap) (.func (.func f) F C)
 | iface (t:Nat) (v:kM) (V:Value) (hh:lM G h v V):lM G h (.iface t v) (.iface t V)
def owner (G:Gh) (h:kP) (id:Nat):Option Nat :=
 match h[id]? with
 | some (.cells _) | some (.map _) | some (.tcells _ _)=>some (G.oP id)
 | some (.front _ _ _) | some (.vec _ _ _)=>(G.cur id).ownBlock
 | _=>none
def ED (G:Gh) (h:kP) (w:World) (id:Nat):lE→Prop
 | .free=>True
 | .gone=>True
 | .cells cs=>∃C e,w.heap[G.oP id]?=some (.cells C e (0,0))∧C.size=cs.length∧(∀k,G.H (G.oP id) k=none) ∧
   ∀(i:Nat) (v:kM),cs[i]?=some v→v.mD=true∧lM G h v (C.getD i undef)
 | .tcells e cs=>∃C,w.heap[G.oP id]?=some (.cells C e (0,0))∧C.size=cs.length∧(∀k,G.H (G.oP id) k=none) ∧
   ∀(i:Nat) (v:kM),cs[i]?=some v→v.mD=true∧lM G h v (C.getD i undef)
 | .front n sz t=>(n=0∧G.cur id=.slice none 0 0)∨∃b cap C e,G.cur id=.slice (some ⟨b,0,none⟩) n cap∧w.heap[b]?=some (.cells C e (0,0)) ∧
   n≤cap∧cap≤maxLen∧C.size=cap * sz∧0 < sz∧(∀k,n * sz≤k→G.H b k=none)∧(t≠0→e+1=t)
 | .vec tot sz cs=>∃b cap C e,G.cur id=.slice (some ⟨b,0,none⟩) tot cap∧w.heap[b]?=some (.cells C e (0,0))∧tot≤cap∧cap≤maxLen∧C.size=cap * sz∧0 < sz∧cs.length=tot * sz∧(∀k,G.H b k=none) ∧
   ∀(i:Nat) (v:kM),cs[i]?=some v→v.mD=true∧lM G h v (C.getD i undef)
 | .map es=>∃E clock,w.heap[G.oP id]?=some (.map E clock)∧E.size=es.length∧(∀k,G.H (G.oP id) k=none) ∧
   (∀(i:Nat) (kv:kM×kM),es[i]?=some kv→∃m,E[i]?=some m∧IU kv.1=true∧rC G.H kv.1 m.key∧lM G h kv.2 m.val)∧MapKept.Stamped E clock
structure Inv (G:Gh) (h:kP) (w:World):Prop where
 ok:∀b k v,G.H b k=some v→w.cell? ⟨b,k,none⟩=some v
 oP:∀id bl,h[id]?=some bl→ED G h w id bl
 inj:∀i j b,owner G h i=some b→owner G h j=some b→i=j
def Kind (G G':Gh) (id:Nat):lE→lE→Prop
 | .free,_=>True
 | .gone,.gone=>G'.oP id=G.oP id∧G'.cur id=G.cur id
 | .cells a,.cells b=>a.length=b.length∧G'.oP id=G.oP id∧G'.cur id=G.cur id
 | .map _,.map _=>G'.oP id=G.oP id∧G'.cur id=G.cur id
 | .tcells t a,.tcells t' b=>t'=t∧a.length=b.length∧G'.oP id=G.oP id∧G'.cur id=G.cur id
 | .front n sz _,.front n' sz' _=>n≤n'∧(n=n'→G'.cur id=G.cur id)∧G'.oP id=G.oP id∧(0 < n→sz'=sz)
 | .front n _ _,.vec _ _ _=>n=0∧G'.oP id=G.oP id
 | .front _ _ _,.gone=>G'.oP id=G.oP id
 | .vec _ _ _,.vec _ _ _=>G'.oP id=G.oP id∧Bp (G.cur id)≤Bp (G'.cur id)∧(Bp (G.cur id)=Bp (G'.cur id)→G'.cur id=G.cur id)
 | .vec _ _ _,.gone=>G'.oP id=G.oP id∧Bp (G.cur id)≤Bp (G'.cur id)∧(Bp (G.cur id)=Bp (G'.cur id)→G'.cur id=G.cur id)
 | _,_=>False
structure Ext (G:Gh) (h:kP) (w:World) (G':Gh) (h':kP) (w':World):Prop where
 os:w'.os=w.os
 tape:w'.tape=w.tape
 output:w'.output=w.output
 size:w.heap.size≤w'.heap.size
 frame:∀b,b < w.heap.size→(∀id,owner G h id≠some b)→w'.heap[b]?=w.heap[b]?∧∀k,G'.H b k=G.H b k
 hmono:∀b k v,G.H b k=some v→G'.H b k=some v
 own:∀id b,owner G' h' id=some b→b < w.heap.size→owner G h id=some b
 kinds:∀id bl,h[id]?=some bl→∃bl',h'[id]?=some bl'∧Kind G G' id bl bl'
theorem Kind.refl (G:Gh) (id:Nat) (b:lE):Kind G G id b b:=by cases b <;> simp [Kind]
theorem Kind.trans {G G' G'':Gh}{id:Nat}{a b c:lE}(h:Kind G G' id a b) (h':Kind G' G'' id b c):Kind G G'' id a c:=by
 cases a <;> cases b <;> cases c <;> simp only [Kind] at h h' ⊢ <;> first
  | exact h.elim
  | exact h'.elim
  | trivial
  | exact⟨h'.1.trans h.1,h'.2.trans h.2⟩
  | exact⟨h.1.trans h'.1,h'.2.1.trans h.2.1,h'.2.2.trans h.2.2⟩
  | exact⟨by omega,by omega,h'.2.2.1.trans h.2.2.1,fun e=>by rw [h'.2.2.2 (by omega),h.2.2.2 e]⟩
  | exact⟨by omega,fun e=>by rw [h'.2.1 (by omega),h.2.1 (by omega)],h'.2.2.1.trans h.2.2.1,fun e=>by rw [h'.2.2.2 (by omega),h.2.2.2 e]⟩
  | exact⟨h'.1.trans h.1,by omega,fun e=>by rw [h'.2.2 (by omega),h.2.2 (by omega)]⟩
  | exact⟨h'.1.trans h.1,by have:=h'.2; rw [h'.2]; exact h.2.1,fun e=>by rw [h'.2] at e ⊢; exact h.2.2 e⟩
  | exact⟨h.1,h'.1.trans h.2⟩
  | exact⟨by omega,h'.2.trans h.2.2.1⟩
  | exact h'.trans h.2.2.1
  | exact h'.1.trans h
  | exact h'.1.trans h.2
  | exact⟨h'.1.trans h.1,h.2.1.trans h'.2.1,h'.2.2.1.trans h.2.2.1,h'.2.2.2.trans h.2.2.2⟩
  | skip
theorem Ext.refl (G:Gh) (h:kP) (w:World):Ext G h w G h w :=
 ⟨rfl,rfl,rfl,ac5 _,fun _ _ _=>⟨rfl,fun _=>rfl⟩,fun _ _ _ h=>h,fun _ _ h _=>h,fun id bl hb=>⟨bl,hb,Kind.refl G id bl⟩⟩
theorem Ext.trans {G G' G'':Gh}{h h' h'':kP}{w w' w'':World}(a:Ext G h w G' h' w') (b:Ext G' h' w' G'' h'' w''):Ext G h w G'' h'' w'' where
 os:=b.os.trans a.os
 tape:=b.tape.trans a.tape
 output:=b.output.trans a.output
 size:=Nat.le_trans a.size b.size
 frame:=fun c hc hn=>by
  obtain⟨h1,h2⟩:=a.frame c hc hn
  obtain⟨h3,h4⟩:=b.frame c (Nat.lt_of_lt_of_le hc a.size) (fun id ho=>hn id (a.own id c ho hc))
  exact⟨h3.trans h1,fun k=>(h4 k).trans (h2 k)⟩
 hmono:=fun c k v hv=>b.hmono c k v (a.hmono c k v hv)
 own:=fun id c ho hc=>a.own id c (b.own id c ho (Nat.lt_of_lt_of_le hc a.size)) hc
 kinds:=fun id bl hb=>by
  obtain⟨b1,h1,k1⟩:=a.kinds id bl hb
  obtain⟨b2,h2,k2⟩:=b.kinds id b1 h1
  exact⟨b2,h2,k1.trans k2⟩
structure EG (G:Gh) (h:kP) (G':Gh) (h':kP):Prop where
 hmono:∀b k v,G.H b k=some v→G'.H b k=some v
 kinds:∀id bl,h[id]?=some bl→∃bl',h'[id]?=some bl'∧Kind G G' id bl bl'
theorem Ext.toMono {G G':Gh}{h h':kP}{w w':World}(a:Ext G h w G' h' w'):EG G h G' h':=⟨a.hmono,a.kinds⟩
theorem Kind.oP {G G':Gh}{id:Nat}{a b:lE}(h:Kind G G' id a b) (ha:a≠.free):b≠.free∧G'.oP id=G.oP id:=by
 cases a <;> cases b <;> simp_all [Kind]
theorem Kind.nf {G G':Gh}{id:Nat}{a b:lE}(h:Kind G G' id a b) (ha:a≠.free) (hn:∀n sz t,a≠.front n sz t):∀n sz t,b≠.front n sz t:=by
 cases a <;> cases b <;> simp_all [Kind]
theorem Kind.cur {G G':Gh}{id:Nat}{a b:lE}(h:Kind G G' id a b) (ha:a≠.free) (hn:∀n sz t,a≠.front n sz t):Bp (G.cur id)≤Bp (G'.cur id)∧(Bp (G.cur id)=Bp (G'.cur id)→G'.cur id=G.cur id):=by
 cases a <;> cases b <;> simp_all [Kind]
theorem EG.live {G G':Gh}{h h':kP}(m:EG G h G' h') {id:Nat}(hl:live h id):live h' id∧G'.oP id=G.oP id:=by
 obtain⟨bl,h1,h2⟩:=hl
 obtain⟨bl',h3,h4⟩:=m.kinds id bl h1
 exact⟨⟨bl',h3,(h4.oP h2).1⟩,(h4.oP h2).2⟩
theorem EG.nf {G G':Gh}{h h':kP}(m:EG G h G' h') {id:Nat}(hl:At h id):At h' id∧Bp (G.cur id)≤Bp (G'.cur id)∧(Bp (G.cur id)=Bp (G'.cur id)→G'.cur id=G.cur id):=by
 obtain⟨bl,h1,h2,h3⟩:=hl
 obtain⟨bl',h4,h5⟩:=m.kinds id bl h1
 exact⟨⟨bl',h4,(h5.oP h2).1,h5.nf h2 h3⟩,h5.cur h2 h3⟩
theorem lM.mono {G G':Gh}{h h':kP}(m:EG G h G' h') {v:kM}{V:Value}(r:lM G h v V):lM G' h' v V:=by
 induction r with
 | p v V hp=>exact .p v V (hp.mono m.hmono)
 | agg cs C hl _ ih=>exact .agg cs C hl ih
 | tuple cs C hl _ ih=>exact .tuple cs C hl ih
 | nil=>exact .nil
 | own rows id n sz V hp hf hn hr hc =>
  obtain⟨bl',h3,h4⟩:=m.kinds id _ hf
  cases bl' with
  | front n' sz' t' =>
   obtain⟨h6,h7,_,h8⟩:=h4
   exact .own rows id n' sz' V (hp.mono m.hmono) h3 (by omega) (fun r hm=>by rw [h8 (by have:=List.length_pos_of_mem hm; omega)]; exact hr r hm)
    (fun e=>by rw [h7 (by omega)]; exact hc (by omega))
  | vec tot sz' cs =>
   obtain rfl:rows=[]:=List.eq_nil_of_length_eq_zero (by have:=h4.1; omega)
   exact .ownv id V (hp.mono m.hmono) ⟨_,h3,by simp,by simp⟩
  | gone =>
   exact .ownv id V (hp.mono m.hmono) ⟨_,h3,by simp,by simp⟩
  | _=>exact h4.elim
 | ownv id V hp hb=>exact .ownv id V (hp.mono m.hmono) (m.nf hb).1
 | vslice id tot off len sz b cap hl ht hc hv =>
  obtain⟨h1,h2,h3⟩:=m.nf hl
  exact .vslice id tot off len sz b cap h1 (by omega) hc fun e=>by rw [h3 (by omega)]; exact hv (by omega)
 | vptr id tot off b hl ht hv =>
  obtain⟨h1,h2,h3⟩:=m.nf hl
  exact .vptr id tot off b h1 (by omega) fun e=>by rw [h3 (by omega)]; exact hv (by omega)
 | ptr id off hl=>obtain⟨h1,h2⟩:=m.live hl; rw [←h2]; exact .ptr id off h1
 | mslice id off len sz cap hl hc=>obtain⟨h1,h2⟩:=m.live hl; rw [←h2]; exact .mslice id off len sz cap h1 hc
 | mslice0 id off sz cap a=>exact .mslice0 id off sz cap a
 | map id hl=>obtain⟨h1,h2⟩:=m.live hl; rw [←h2]; exact .map id h1
 | func f first cap F C hlf hlc _ _ ihf ihc=>exact .func f first cap F C hlf hlc ihf ihc
 | iface t v V _ ih=>exact .iface t v V ih
end
section
open Go Go.RowKit
section inv
variable {G:Gh}{h:kP}{V:Value}
theorem lM.q_ {k:IntKind}{n:Int}(r:lM G h (.int k n) V):V=.int k n:=by
 cases r with | p _ _ hp=>cases hp; rfl
theorem lM.Ag {b:Bool}(r:lM G h (.bool b) V):V=.bool b:=by
 cases r with | p _ _ hp=>cases hp; rfl
theorem lM.AD {s:List UInt8}(r:lM G h (.str s) V):V=.string ⟨s.toArray⟩:=by
 cases r with | p _ _ hp=>cases hp; rfl
theorem lM.wD {rows:List (List kM)}{t:Tok}(r:lM G h (.slice rows t) V):rC G.H (.slice rows .no) V:=by
 cases r with
 | p _ _ hp =>
  cases hp with
  | slice0 a cap=>exact .slice0 a cap
  | slice rows b off cap sz V hr hc hH hk hV=>exact .slice rows b off cap sz V hr hc hH hk hV
 | nil=>exact .slice0 none 0
 | own rows id n sz V hp hf hn hr hc=>exact hp
 | ownv id V hp hb=>exact hp
theorem lM.tI {id tot off len sz:Nat}(r:lM G h (.vslice id tot off len sz) V):∃b cap,V=.slice (some ⟨b,off,none⟩) len cap∧At h id∧tot≤Bp (G.cur id)∧len≤cap ∧
   (tot=Bp (G.cur id)→∃l cap0,G.cur id=.slice (some ⟨b,0,none⟩) tot cap0∧off=l * sz∧l+len≤tot∧cap=cap0 - l):=by
 cases r with
 | p _ _ hp=>cases hp
 | vslice _ _ _ _ _ b cap hl ht hc hv=>exact⟨b,cap,rfl,hl,ht,hc,hv⟩
theorem lM.Fo {id tot off:Nat}(r:lM G h (.vptr id tot off) V):∃b,V=.pointer (some ⟨b,off,none⟩)∧At h id∧tot≤Bp (G.cur id)∧(tot=Bp (G.cur id)→∃cap0,G.cur id=.slice (some ⟨b,0,none⟩) tot cap0):=by
 cases r with
 | p _ _ hp=>cases hp
 | vptr _ _ _ b hl ht hv=>exact⟨b,rfl,hl,ht,hv⟩
theorem lM.Ac {cs:List kM}(r:lM G h (.agg cs) V):∃C:Array Value,V=.agg C∧cs.length=C.size∧∀(i:Nat) (v:kM),cs[i]?=some v→lM G h v (C.getD i undef):=by
 cases r with
 | p _ _ hp=>cases hp with | agg cs C hl hh=>exact⟨C,rfl,hl,fun i v hv=>.p _ _ (hh i v hv)⟩
 | agg cs C hl hh=>exact⟨C,rfl,hl,hh⟩
theorem lM.F3 {cs:List kM}(r:lM G h (.tuple cs) V):∃C:Array Value,V=.tuple C∧cs.length=C.size∧∀(i:Nat) (v:kM),cs[i]?=some v→lM G h v (C.getD i undef):=by
 cases r with
 | p _ _ hp=>cases hp with | tuple cs C hl hh=>exact⟨C,rfl,hl,fun i v hv=>.p _ _ (hh i v hv)⟩
 | tuple cs C hl hh=>exact⟨C,rfl,hl,hh⟩
theorem lM.XM (r:lM G h (.tuple []) V):V=undef:=by
 obtain⟨C,rfl,hl,_⟩:=r.F3
 have:C=#[]:=Array.eq_empty_of_size_eq_zero hl.symm
 subst this; rfl
theorem lM.undef:lM G h (.tuple []) Go.undef:=.p _ _ (.tuple [] #[] rfl (by simp))
theorem lM.xV {id off:Nat}(r:lM G h (.ptr id off) V):V=.pointer (some ⟨G.oP id,off,none⟩)∧live h id:=by
 cases r with
 | p _ _ hp=>cases hp
 | ptr id off hl=>exact⟨rfl,hl⟩
theorem lM.H6 {id:Nat}(r:lM G h (.map id) V):V=.map (some (G.oP id))∧live h id:=by
 cases r with
 | p _ _ hp=>cases hp
 | map id hl=>exact⟨rfl,hl⟩
theorem lM.GY (r:lM G h .nilmap V):V=.map none:=by
 cases r with | p _ _ hp=>cases hp; rfl
theorem lM.Fc {cs:List kM}(r:lM G h (.pptr cs) V):rC G.H (.pptr cs) V:=by
 cases r with | p _ _ hp=>exact hp
theorem lM.AS {id off len sz:Nat}(r:lM G h (.mslice id off len sz) V) :
  ∃a cap,V=.slice a len cap∧len≤cap∧(0 < len→a=some ⟨G.oP id,off,none⟩∧live h id):=by
 cases r with
 | p _ _ hp=>cases hp
 | mslice id off len sz cap hl hc=>exact⟨_,cap,rfl,hc,fun _=>⟨rfl,hl⟩⟩
 | mslice0 id off sz cap a=>exact⟨a,cap,rfl,ah9 _,fun hh=>absurd hh (by omega)⟩
theorem lM.Hz {f:Nat}{first cap:List kM}(r:lM G h (.func f first cap) V) :
  ∃F C:Array Value,V=.func (.func f) F C∧first.length=F.size∧cap.length=C.size ∧
   (∀(i:Nat) (v:kM),first[i]?=some v→lM G h v (F.getD i Go.undef))∧(∀(i:Nat) (v:kM),cap[i]?=some v→lM G h v (C.getD i Go.undef)):=by
 cases r with
 | p _ _ hp=>cases hp with | func f=>exact⟨#[],#[],rfl,rfl,rfl,by simp,by simp⟩
 | func f first cap F C hlf hlc hf hc=>exact⟨F,C,rfl,hlf,hlc,hf,hc⟩
theorem lM.DC {t:Nat}{v:kM}(r:lM G h (.iface t v) V):∃W,V=.iface t W∧lM G h v W:=by
 cases r with
 | p _ _ hp=>cases hp with | iface t v V hh=>exact⟨_,rfl,.p _ _ hh⟩
 | iface t v V hh=>exact⟨_,rfl,hh⟩
theorem lM.C7 {v:kM}(r:lM G h v V) (hk:v.mD=true):V.oneCell'=true∧V.cells=#[V]:=by
 cases r with
 | p _ _ hp=>cases hp <;> simp_all [kM.mD,Value.oneCell',Value.cells]
 | own _ _ _ _ _ hp=>cases hp <;> simp [Value.oneCell',Value.cells]
 | ownv _ _ hp=>cases hp <;> simp [Value.oneCell',Value.cells]
 | _=>simp_all [kM.mD,Value.oneCell',Value.cells]
theorem rC.C7 {H:Nat→Nat→Option Value}{v:kM}(r:rC H v V) (hk:v.mD=true):V.oneCell'=true∧V.cells=#[V]:=by
 cases r <;> simp_all [kM.mD,Value.oneCell',Value.cells]
end inv
theorem Gm (G:Gh) (h:kP) (v:Value):lM G h (E9 v) v:=by
 unfold E9
 split
 ·exact .p _ _ (.bool _)
 ·exact .p _ _ (.int _ _)
 ·rename_i s
  have:(⟨s.data.toList.toArray⟩:ByteArray)=s:=by cases s; simp
  have r:=lM.p (G:=G) (h:=h) _ _ (rC.str (H:=G.H) s.data.toList)
  rw [this] at r; exact r
 ·exact .p _ _ .nilptr
 ·exact .nil
 ·exact .p _ _ .nilmap
 ·exact .p _ _ .nilfunc
 ·exact .p _ _ .niliface
 ·exact .p _ _ (.junk _)
theorem wW (G:Gh) (h:kP) (v:Value):lM G h (ofConst v) v:=by
 unfold ofConst
 split
 ·rename_i cs
  refine .agg _ _ (by simp) fun i u hu=>?_
  simp only [ai1,ac6,ad3] at hu
  obtain⟨x,hx,rfl⟩:=hu
  have:cs.getD i undef=x:=by rw [ab2,hx]; rfl
  rw [this]
  exact Gm G h x
 ·rename_i cs
  split
  ·rename_i hn
   have:cs=#[]:=by cases cs; simp_all
   subst this
   exact .p _ _ (.tuple [] #[] rfl (by simp))
  ·exact .p _ _ (.junk _)
 ·exact Gm G h v
def Tq (A:CF) (H:Nat→Nat→Option Value):Prop:=∀g cs,A.glob g=some cs→rC H (.pptr cs) (.pointer (some ⟨g,0,none⟩))
theorem Tq.mono {A:CF}{H H':Nat→Nat→Option Value}(hh:∀b k v,H b k=some v→H' b k=some v) (g:Tq A H):Tq A H':=fun i cs hc=>(g i cs hc).mono hh
structure tM (A:CF) (G:Gh) (h:kP) (w:World):Prop where
 cells:Tq A G.H
 size:∀g n,A.gsz g=some n→(∀id,owner G h id≠some g)∧∃C e fr,w.heap[g]?=some (.cells C e fr)∧C.size=n
theorem tM.mono {A:CF}{G G':Gh}{h h':kP}{w w':World}(gl:tM A G h w) (x:Ext G h w G' h' w'):tM A G' h' w' :=
 ⟨gl.cells.mono x.hmono,fun g n hg=>by
  obtain⟨h1,C,e,fr,h2,h3⟩:=gl.size g n hg
  have hlt:g < w.heap.size:=(Array.getElem?_eq_some_iff.1 h2).1
  exact⟨fun id ho=>h1 id (x.own id g ho hlt),C,e,fr,by rw [(x.frame g hlt h1).1]; exact h2,h3⟩⟩
theorem tM.sub {A:CF}{G G':Gh}{h h':kP}{w:World}(gl:tM A G h w) (hH:G'.H=G.H) (ho:∀id b,owner G' h' id=some b→∃id',owner G h id'=some b):tM A G' h' w :=
 ⟨by rw [hH]; exact gl.cells,fun g n hg=>by
  obtain⟨h1,h2⟩:=gl.size g n hg
  exact⟨fun id hi=>by obtain⟨id',h3⟩:=ho id g hi; exact h1 id' h3,h2⟩⟩
structure p_ (J:Act→Prop) (G:Gh) (h:kP) (ρ:List kM) (a:Act):Prop where
 len:ρ.length=a.tmps.size
 rel:∀(i:Nat) (v:kM),ρ[i]?=some v→lM G h v (a.tmps.getD i undef)
 df:J a
theorem p_.mono {J:Act→Prop}{G G':Gh}{h h':kP}{ρ:List kM}{a:Act}(s:p_ J G h ρ a) (m:EG G h G' h'):p_ J G' h' ρ a :=
 ⟨s.len,fun i v hv=>(s.rel i v hv).mono m,s.df⟩
theorem p_.get {J:Act→Prop}{G:Gh}{h:kP}{ρ:List kM}{a:Act}(s:p_ J G h ρ a) (t:Nat):lM G h (ρ.getD t .junk) (a.tmps.getD t undef):=by
 rw [af6]
 cases hv:ρ[t]? with
 | none=>exact .p _ _ (.junk _)
 | some v=>exact s.rel t v hv
theorem p_.eval {J:Act→Prop}{A:CF}{G:Gh}{h:kP}{ρ:List kM}{a:Act}(s:p_ J G h ρ a) (gl:Tq A G.H) (x:Operand):lM G h (tD A ρ x) (a.eval x):=by
 cases x with
 | tmp t=>exact s.get t
 | const v=>exact wW G h v
 | global g =>
  simp only [tD]
  cases hg:A.glob g with
  | none=>exact .p _ _ (.junk _)
  | some cs=>exact .p _ _ (gl g cs hg)
 | func f=>exact .p _ _ (.func f)
theorem p_.put {J:Act→Prop}{G:Gh}{h:kP}{ρ:List kM}{a:Act}(s:p_ J G h ρ a) (dst:Option Tmp) {v:kM}{V:Value}(r:lM G h v V) (hj:J (a.put dst V)):p_ J G h (sH ρ dst v) (a.put dst V):=by
 cases dst with
 | none=>exact s
 | some d =>
  refine⟨by simp [sH,Act.put,s.len],fun i u hu=>?_,hj⟩
  simp only [sH,List.getElem?_set] at hu
  simp only [Act.put,ab2,Array.getElem?_setIfInBounds]
  by_cases hdi:d=i
  ·subst hdi
   have hlt:d < ρ.length:=by
    by_cases hlt:d < ρ.length
    ·exact hlt
    ·simp [hlt] at hu
   simp only [hlt,if_true] at hu
   cases hu
   rw [s.len] at hlt
   simpa [hlt] using r
  ·simp only [hdi,if_false] at hu ⊢
   simpa [ab2] using s.rel i u hu
theorem B5 {G:Gh}{h:kP}{v:kM}{V:Value}(r:lM G h v V) (hk:v.cells.all kM.mD=true) :
  v.cells.length=V.cells.size∧∀(i:Nat) (u:kM),v.cells[i]?=some u→u.mD=true∧lM G h u (V.cells.getD i undef):=by
 by_cases ha:∃cs,v=.agg cs
 ·obtain⟨cs,rfl⟩:=ha
  obtain⟨C,rfl,hl,hr⟩:=r.Ac
  simp only [kM.cells,Value.cells] at *
  exact⟨hl,fun i u hu=>⟨by simpa using ah1.1 hk u (af1 hu),hr i u hu⟩⟩
 ·have hc:v.cells=[v]:=by cases v <;> simp_all [kM.cells]
  rw [hc] at hk ⊢
  have hk':v.mD=true:=by simpa using hk
  obtain⟨_,h2⟩:=r.C7 hk'
  rw [h2]
  refine⟨rfl,fun i u hu=>?_⟩
  cases i with
  | zero=>simp at hu; subst hu; exact⟨hk',by simpa using r⟩
  | succ i=>simp at hu
end
section
open Go Go.RowKit
section
variable {P:Program}{G:Gh}{h:kP}{w:World}{x y v:kM}{X Y:Value}
theorem D4 (op:BinOp) (t:TypeId) (xo yo:Operand) (X Y:Value) (hx:(∀cs,X≠.agg cs)∧X≠.nilIface):(eqGuard op t xo yo X Y).run P w=.ok () w:=by
 obtain⟨h1,h2⟩:=hx
 cases op <;> cases X <;> first
  | (exact absurd rfl (h1 _); done)
  | (exact absurd rfl h2; done)
  | (unfold eqGuard; simp [Sem.run_pure]; done)
  | (unfold eqGuard; simp [Sem.run_pure]; split <;> simp_all [Sem.run_pure]; done)
theorem oN {t:TypeId}{n:Nat}(hn:oU P t=some n):(Go.sizeOf t).run P w=.ok n w:=by
 unfold oU at hn
 cases hu:P.info? t with
 | none=>simp [hu] at hn
 | some ti=>simp [hu] at hn; simp [Go.sizeOf,Go.typeInfo,hu,hn]
theorem G0 {t:TypeId}{g:Bool}(hg:t_ P t=some g):(isAgg t).run P w=.ok g w:=by
 unfold t_ at hg
 cases hu:P.underlying t with
 | none=>simp [hu] at hg
 | some d=>cases d <;> simp_all [isAgg,run_underlying,Sem.run_pure]
theorem run_equalIn_bool {t:TypeId}(ht:P.underlying t=some .bool) (d:Nat) (a b:Bool):(Op.equalIn (d+1) t (.bool a) (.bool b)).run P w=.ok (a == b) w:=by
 simp only [Op.equalIn,Sem.run_bind,run_underlying ht,Result.andThen_ok,Sem.run_pure]
theorem Mp {op:BinOp}(t:TypeId) (xo yo:Operand) (hb:kV op x y=some v) (hx:lM G h x X) (hy:lM G h y Y) :
  ∃V,(do eqGuard op t xo yo X Y; binOp op t X Y:Sem Value).run P w=.ok V w∧lM G h v V:=by
 unfold kV at hb
 split at hb
 ·rename_i k a k' b
  have:=hx.q_; subst this
  have:=hy.q_; subst this
  have hg:=D4 (P:=P) (w:=w) op t xo yo (.int k a) (.int k' b) (by simp)
  simp only [Sem.run_bind,hg,Result.andThen_ok]
  cases op <;> (try simp only at hb) <;> (try split at hb) <;> (try simp only [ab0,reduceCtorEq] at hb)
  all_goals (try subst hb)
  all_goals (try (rename_i hk; simp only [ne_eq,Decidable.not_not] at hk; try subst hk))
  all_goals (try (split at hb))
  all_goals (try (cases hb; done))
  all_goals (try (simp only [ab0] at hb; subst hb))
  all_goals refine⟨_,?_,.p _ _ (by first | exact .int _ _ | exact .bool _)⟩
  all_goals (try simp_all [binOp,Op.intArith,Op.intCmp,Op.intDiv,Op.intBits,Op.shift,Sem.run_pure])
  all_goals (intro hlt; omega)
 ·rename_i a b
  have:=hx.AD; subst this
  have:=hy.AD; subst this
  have hg:=D4 (P:=P) (w:=w) op t xo yo (.string ⟨a.toArray⟩) (.string ⟨b.toArray⟩) (by simp)
  simp only [Sem.run_bind,hg,Result.andThen_ok]
  cases op <;> simp only [reduceCtorEq] at hb <;> (try split at hb) <;> simp only [ab0,reduceCtorEq] at hb
  all_goals subst hb
  ·rename_i hl
   refine⟨.string (⟨a.toArray⟩++⟨b.toArray⟩),?_,?_⟩
   ·show(Op.stringOp .add _ _).run P w=_
    refine run_string_add_sum _ _ _ ?_
    show a.toArray.size+b.toArray.size≤_
    simp only [List.size_toArray]; omega
   ·have:(⟨a.toArray⟩:ByteArray)++⟨b.toArray⟩=⟨(a++b).toArray⟩:=by
     apply ByteArray.ext; simp
    rw [this]; exact .p _ _ (.str _)
  all_goals exact⟨_,by simp [binOp,Op.stringOp,Sem.run_pure],.p _ _ (.bool _)⟩
 ·cases hb
theorem TO {op:BinOp}{t:TypeId}(ht:P.underlying t=some .bool) (xo yo:Operand) (hb:Gd op x y=some v) (hx:lM G h x X) (hy:lM G h y Y) :
  ∃V,(do eqGuard op t xo yo X Y; binOp op t X Y:Sem Value).run P w=.ok V w∧lM G h v V:=by
 unfold Gd at hb
 split at hb
 all_goals first | (cases hb; done) | skip
 all_goals
  rename_i a b
  have:=hx.Ag; subst this
  have:=hy.Ag; subst this
  simp only [ab0] at hb; subst hb
  refine⟨_,?_,.p _ _ (.bool _)⟩
  have he:=run_equalIn_bool (P:=P) (w:=w) ht 9999 a b
  simp only [Sem.run_bind,D4 (P:=P) (w:=w) _ t xo yo (.bool a) (.bool b) (by simp),Result.andThen_ok]
  simp only [binOp,Sem.run_bind,Op.equal,Op.maxDepth,he,Result.andThen_ok,Sem.run_pure]
theorem aaW {op:UnOp}(hb:vT op x=some v) (hx:lM G h x X):∃V,(Op.unary op X).run P w=.ok V w∧lM G h v V:=by
 unfold vT at hb
 split at hb
 all_goals first | (cases hb; done) | skip
 all_goals simp only [ab0] at hb; subst hb
 ·have:=hx.q_; subst this
  exact⟨_,by simp [Op.unary,Op.intArith,Sem.run_pure],.p _ _ (.int _ _)⟩
 ·have:=hx.q_; subst this
  exact⟨_,by simp [Op.unary,Op.intBits,Sem.run_pure],.p _ _ (.int _ _)⟩
 ·have:=hx.Ag; subst this
  exact⟨_,by simp [Op.unary,Sem.run_pure],.p _ _ (.bool _)⟩
theorem Mq {s d:TypeId}{k k0:IntKind}(hs:P.underlying s=some (.int k0)) (hd:P.underlying d=some (.int k)) (hb:vR k x=some v) (hx:lM G h x X) :
  ∃V,(convert s d X).run P w=.ok V w∧lM G h v V:=by
 unfold vR at hb
 split at hb <;> simp only [ab0,reduceCtorEq] at hb
 subst hb
 have:=hx.q_; subst this
 exact⟨_,by simp [convert,run_underlying hs,run_underlying hd,Conv.intToInt,Sem.run_pure],.p _ _ (.int _ _)⟩
theorem T2 {c a b:kM}{C A B:Value}(hb:lN c a b=some v) (hc:lM G h c C) (ha:lM G h a A) (hbb:lM G h b B) :
  ∃V,((do pure (.value (if ←asBool C then A else B))):Sem Next).run P w=.ok (.value V) w∧lM G h v V:=by
 unfold lN at hb
 split at hb <;> simp only [ab0,reduceCtorEq] at hb
 rename_i g
 subst hb
 have:=hc.Ag; subst this
 refine⟨bif g then A else B,?_,by cases g <;> assumption⟩
 cases g <;> simp [asBool,Sem.run_pure]
theorem Mt {i:Nat}(hb:lH i x=some v) (hx:lM G h x X):∃V,(Instr.extract X i).run P w=.ok V w∧lM G h v V:=by
 unfold lH at hb
 split at hb
 ·obtain⟨C,rfl,hl,hr⟩:=hx.F3
  have hlt:i < C.size:=by rw [←hl]; exact(ab1.1 hb).1
  refine⟨C.getD i undef,?_,hr i v hb⟩
  simp [Instr.extract,Array.getElem?_eq_getElem hlt,Sem.run_pure]
 ·cases hb
theorem CT {g:Bool}{n off:Nat}{cs:List kM}{C:Array Value}{t:TypeId}(hg:t_ P t=some g) (hn:oU P t=some n)
  (hb:apart g n cs off=some v) (hl:cs.length=C.size) (hr:∀(i:Nat) (u:kM),cs[i]?=some u→lM G h u (C.getD i undef)) :
  ∃V,(part t C off).run P w=.ok V w∧lM G h v V:=by
 have hagg:=G0 (w:=w) hg
 have hsz:=oN (w:=w) hn
 unfold apart at hb
 cases g with
 | true =>
  simp only [cond_true] at hb
  split at hb <;> simp only [ab0,reduceCtorEq] at hb
  rename_i hle
  subst hb
  refine⟨.agg (C.extract off (off+n)),?_,.agg _ _ ?_ ?_⟩
  ·simp [part,hagg,hsz]
  ·simp; omega
  ·intro i u hu
   have hi:i < n:=by
    have:=(ab1.1 hu).1
    simp at this; omega
   rw [ah3,if_pos hi,ah5] at hu
   have:=hr _ _ hu
   have hsz2:off+i < C.size:=by omega
   rw [ab2] at this ⊢
   rw [Array.getElem?_extract,if_pos (by omega)]
   exact this
 | false =>
  simp only [cond_false] at hb
  have hlt:off < C.size:=by rw [←hl]; exact(ab1.1 hb).1
  exact⟨C.getD off undef,by simp [part,hagg,Array.getElem?_eq_getElem hlt,Sem.run_pure],hr off v hb⟩
end
end
section
open Go Go.RowKit
section
variable {P:Program}{G:Gh}{h:kP}{w:World}{x y v:kM}{X Y:Value}
theorem Re {t ft:TypeId}{fs:Array Field}{f:Nat}{fd:Field}{g:Bool}{n:Nat}(ht:P.underlying t=some (.struct fs)) (hf:fs[f]?=some fd)
  (hg:t_ P fd.type=some g) (hn:oU P fd.type=some n) (hb:sP g n fd.offset x=some v) (hx:lM G h x X) :
  ∃V,(Instr.field t X f).run P w=.ok V w∧lM G h v V:=by
 unfold sP at hb
 split at hb
 ·obtain⟨C,rfl,hl,hr⟩:=hx.Ac
  obtain⟨V,h1,h2⟩:=CT (w:=w) hg hn hb hl hr
  exact⟨V,by simp [Instr.field,run_underlying ht,hf,asAgg,h1,Sem.run_pure],h2⟩
 ·cases hb
theorem K6 {t:TypeId}(ht:P.underlying t=some .string) (hb:m_ x y=some v) (hx:lM G h x X) (hy:lM G h y Y) :
  ∃V,(Instr.index t X Y).run P w=.ok V w∧lM G h v V:=by
 unfold m_ at hb
 split at hb
 ·rename_i s k n
  split at hb
  ·rename_i h0
   have:=hx.AD; subst this
   have:=hy.q_; subst this
   cases hs:s[n.toNat]? with
   | none=>simp [hs] at hb
   | some b =>
    simp [hs] at hb; subst hb
    refine⟨_,?_,.p _ _ (.int _ _)⟩
    have hget:(⟨s.toArray⟩:ByteArray)[n.toNat]?=some b:=by
     have hlt:n.toNat < s.length:=(ab1.1 hs).1
     have hb2:s[n.toNat]=b:=(ab1.1 hs).2
     have hsz:n.toNat < (⟨s.toArray⟩:ByteArray).size:=by show n.toNat < s.toArray.size; simpa using hlt
     rw [getElem?_pos (c:=(⟨s.toArray⟩:ByteArray)) (i:=n.toNat) hsz]
     rw [←hb2]; rfl
    simp [Instr.index,asIntOf,run_underlying ht,h0,hget,Sem.run_pure]
  ·cases hb
 ·cases hb
theorem K4 {t e:TypeId}{len sz:Nat}{g:Bool}(ht:P.underlying t=some (.array len e)) (hg:t_ P e=some g) (hn:oU P e=some sz)
  (hb:IT g len sz x y=some v) (hx:lM G h x X) (hy:lM G h y Y):∃V,(Instr.index t X Y).run P w=.ok V w∧lM G h v V:=by
 unfold IT at hb
 split at hb
 ·rename_i cs k n
  split at hb
  ·rename_i h0
   obtain⟨C,rfl,hl,hr⟩:=hx.Ac
   have:=hy.q_; subst this
   obtain⟨V,h1,h2⟩:=CT (w:=w) hg hn hb hl hr
   exact⟨V,by simp [Instr.index,asIntOf,run_underlying ht,h0,oN hn,h1,Sem.run_pure],h2⟩
  ·cases hb
 ·cases hb
theorem Kl {b:Option kM}{B:Option Value}{dflt y0 n:Nat}{code:BoundsCode}(hb:uS b dflt=some n) (hle:n≤y0)
  (hr:∀u,b=some u→∃U,B=some U∧lM G h u U) (hnone:b=none→B=none) :
  (match B with | some U=>Instr.sliceBound U y0 code | none=>(pure dflt:Sem Nat)).run P w=.ok n w:=by
 unfold uS at hb
 cases b with
 | none=>rw [hnone rfl]; simp at hb; subst hb; simp [Sem.run_pure]
 | some u =>
  obtain⟨U,rfl,hU⟩:=hr u rfl
  cases u <;> simp at hb
  rename_i k m
  obtain⟨h0,rfl⟩:=hb
  have:=hU.q_; subst this
  have:(0:Int)≤m∧m≤(y0:Int):=⟨h0,by omega⟩
  simp [Instr.sliceBound,asIntOf,this,Sem.run_pure]
theorem xB {isS:Bool}{lo hi:Option kM}{LO HI:Option Value}{len cap l u:Nat}(hlo:uS lo 0=some l) (hhi:uS hi len=some u) (hlu:l≤u) (hlen:len≤cap) (huc:u≤cap)
  (hrl:∀a,lo=some a→∃U,LO=some U∧lM G h a U) (hnl:lo=none→LO=none) (hrh:∀a,hi=some a→∃U,HI=some U∧lM G h a U) (hnh:hi=none→HI=none) :
  (Instr.sliceBounds isS len cap LO HI none).run P w=.ok (l,u,cap) w:=by
 have h1:=Kl (P:=P) (w:=w) (code:=if isS then .sliceAcap else .sliceAlen) hhi huc hrh hnh
 have h2:=Kl (P:=P) (w:=w) (code:=.sliceB) hlo hlu hrl hnl
 unfold Instr.sliceBounds
 cases HI with
 | none =>
  simp only [Sem.run_pure,Result.ok.injEq,and_true] at h1; subst h1
  cases LO with
  | none=>simp only [Sem.run_pure,Result.ok.injEq,and_true] at h2; subst h2; simp [Sem.run_pure]
  | some L=>simp only [] at h2; simp [h2,Sem.run_pure]
 | some Hh =>
  simp only [] at h1
  cases LO with
  | none=>simp only [Sem.run_pure,Result.ok.injEq,and_true] at h2; subst h2; simp [h1,Sem.run_pure]
  | some L=>simp only [] at h2; simp [h1,h2,Sem.run_pure]
theorem ajP {f:Operand→kM}{F:Operand→Value}(hf:∀o,lM G h (f o) (F o)) (o:Option Operand) :
  (∀a,o.map f=some a→∃U,o.map F=some U∧lM G h a U)∧(o.map f=none→o.map F=none):=by
 cases o with
 | none=>simp
 | some o=>exact⟨fun a ha=>⟨F o,rfl,by simp at ha; subst ha; exact hf o⟩,by simp⟩
section slices
variable {lo hi:Option kM}{LO HI:Option Value}
 (hrl:∀a,lo=some a→∃U,LO=some U∧lM G h a U) (hnl:lo=none→LO=none) (hrh:∀a,hi=some a→∃U,HI=some U∧lM G h a U) (hnh:hi=none→HI=none)
include hrl hnl hrh hnh
theorem K8 {t:TypeId}(ht:P.underlying t=some .string) (hb:oK x lo hi=some v) (hx:lM G h x X) :
  ∃V,(Instr.sliceAt t X LO HI none).run P w=.ok V w∧lM G h v V:=by
 unfold oK at hb
 split at hb
 ·rename_i s
  have:=hx.AD; subst this
  split at hb
  ·rename_i l u hl hu
   split at hb <;> simp only [ab0,reduceCtorEq] at hb
   rename_i hlu
   subst hb
   have hsz:(⟨s.toArray⟩:ByteArray).size=s.length:=by show s.toArray.size=_; simp
   have hr:=xB (P:=P) (w:=w) (isS:=false) (len:=s.length) (cap:=s.length) hl hu hlu.1 (ac5 _) hlu.2 hrl hnl hrh hnh
   refine⟨.string ((⟨s.toArray⟩:ByteArray).extract l u),?_,?_⟩
   ·simp [Instr.sliceAt,run_underlying ht,Instr.slice,hsz,hr,Sem.run_pure]
   ·have:(⟨s.toArray⟩:ByteArray).extract l u=⟨((s.drop l).take (u - l)).toArray⟩:=by
     apply ByteArray.ext
     simp [ByteArray.data_extract]
    rw [this]; exact .p _ _ (.str _)
  ·cases hb
 ·cases hb
theorem K7 {t e:TypeId}{len sz:Nat}(ht:P.underlying t=some (.array len e)) (hn:oU P e=some sz) (hb:IY len sz x lo hi=some v) (hx:lM G h x X) :
  ∃V,(Instr.sliceAt t X LO HI none).run P w=.ok V w∧lM G h v V:=by
 have hadd:∀b off k,Addr.add ⟨b,off,none⟩ k=⟨b,off+k,none⟩:=by
  intro b off k; unfold Addr.add; split <;> simp_all
 unfold IY at hb
 split at hb
 ·rename_i id off
  split at hb <;> simp only [ab0,reduceCtorEq] at hb
  rename_i hlen
  subst hb
  obtain⟨rfl,hl⟩:=hx.xV
  have h1:=hnl rfl
  have h2:=hnh rfl
  subst h1; subst h2
  refine⟨.slice (some ⟨G.oP id,off,none⟩) len len,?_,.mslice _ _ _ _ _ hl (ac5 _)⟩
  simp [Instr.sliceAt,run_underlying ht,Instr.sureAddr,Instr.sliceBounds,oN hn,Sem.run_pure,hadd]
 ·cases hb
theorem MC {t e:TypeId}{sz:Nat}(ht:P.underlying t=some (.slice e)) (hn:oU P e=some sz) (hb:uT sz x lo hi=some v) (hx:lM G h x X) :
  ∃V,(Instr.sliceAt t X LO HI none).run P w=.ok V w∧lM G h v V:=by
 unfold uT at hb
 split at hb
 ·rename_i rows tok
  have hp:=hx.wD
  split at hb
  ·rename_i l u hl hu
   split at hb <;> simp only [ab0,reduceCtorEq] at hb
   rename_i hlu
   obtain⟨hlu1,hlu2,hall⟩:=hlu
   subst hb
   cases hp with
   | slice0 a cap =>
    simp only [List.length_nil,Nat.le_zero_eq] at hlu2
    subst hlu2
    have hl0:l=0:=by omega
    subst hl0
    have hr:=xB (P:=P) (w:=w) (isS:=true) (len:=0) (cap:=cap) hl hu hlu1 (ah9 _) (ah9 _) hrl hnl hrh hnh
    refine⟨.slice (if cap=0 then a else a.map (·.add (0 * sz))) 0 cap,?_,.p _ _ (by simp only [List.drop_nil,List.take_nil]; exact .slice0 _ _)⟩
    simp [Instr.sliceAt,run_underlying ht,Instr.slice,oN hn,hr,Sem.run_pure]
   | slice rows b off cap sz' V hr0 hc hH hk hV =>
    have hr:=xB (P:=P) (w:=w) (isS:=true) (len:=rows.length) (cap:=cap) hl hu hlu1 hc (by omega) hrl hnl hrh hnh
    refine⟨.slice (if cap=l then some ⟨b,off,none⟩ else some (Addr.add ⟨b,off,none⟩ (l * sz))) (u - l) (cap - l),?_,?_⟩
    ·simp [Instr.sliceAt,run_underlying ht,Instr.slice,oN hn,hr,Sem.run_pure]
    ·have hlen:((rows.drop l).take (u - l)).length=u - l:=by simp; omega
     by_cases h0:u - l=0
     ·have:(rows.drop l).take (u - l)=[]:=by rw [h0]; simp
      rw [this,h0]; exact .p _ _ (.slice0 _ _)
     ·have hcl:¬cap=l:=by omega
      have hszz:sz'=sz:=by
       have hm:rows[l]?=some rows[l]:=ac0 (by omega)
       have h1:=hr0 rows[l] (af1 hm)
       have h2:=ah1.1 hall rows[l] (af1 hm)
       simp at h2; omega
      subst hszz
      rw [if_neg hcl]
      have hadd:Addr.add ⟨b,off,none⟩ (l * sz')=⟨b,off+l * sz',none⟩:=by
       unfold Addr.add; split <;> simp_all
      rw [hadd]
      have hget:∀i (row:List kM),((rows.drop l).take (u - l))[i]?=some row→rows[l+i]?=some row:=by
       intro i row hi
       rw [ah3] at hi
       split at hi
       ·rwa [ah5] at hi
       ·cases hi
      have hmem:∀r∈(rows.drop l).take (u - l),r.length=sz':=fun r hrm=>hr0 r (List.mem_of_mem_drop (List.mem_of_mem_take hrm))
      generalize (rows.drop l).take (u - l)=R at hlen hget hmem
      rw [←hlen]
      refine .p _ _ (.slice R b (off+l * sz') (cap - l) sz' (fun k=>V (l * sz'+k)) hmem (by rw [hlen]; omega) ?_ ?_ ?_)
      ·intro i j row v h1 h2
       have:=hH (l+i) j row v (hget i row h1) h2
       rw [show off+l * sz'+(i * sz'+j)=off+((l+i) * sz'+j) by rw [al4]; omega,this]
       congr 2; rw [al4]; omega
      ·intro i j row v h1 h2; exact hk (l+i) j row v (hget i row h1) h2
      ·intro i j row v h1 h2
       have:=hV (l+i) j row v (hget i row h1) h2
       rw [show l * sz'+(i * sz'+j)=(l+i) * sz'+j by rw [al4]; omega]; exact this
  ·cases hb
 ·rename_i id off len sz'
  obtain⟨a,cap,rfl,hlc,ha⟩:=hx.AS
  split at hb
  ·rename_i l u hl hu
   split at hb <;> simp only [ab0,reduceCtorEq] at hb
   rename_i hlu
   obtain⟨hlu1,hlu2,rfl⟩:=hlu
   subst hb
   have hr:=xB (P:=P) (w:=w) (isS:=true) (len:=len) (cap:=cap) hl hu hlu1 hlc (by omega) hrl hnl hrh hnh
   refine⟨.slice (if cap=l then a else a.map (·.add (l * sz'))) (u - l) (cap - l),?_,?_⟩
   ·simp [Instr.sliceAt,run_underlying ht,Instr.slice,oN hn,hr,Sem.run_pure]
   ·by_cases h0:u - l=0
    ·rw [h0]; exact .mslice0 _ _ _ _ _
    ·obtain⟨rfl,hlv⟩:=ha (by omega)
     rw [if_neg (by omega)]
     have hadd:Addr.add ⟨G.oP id,off,none⟩ (l * sz')=⟨G.oP id,off+l * sz',none⟩:=by
      unfold Addr.add; split <;> simp_all
     simp only [Option.map_some,hadd]
     exact .mslice id _ _ sz' _ hlv (by omega)
  ·cases hb
 ·rename_i id tot off len sz'
  obtain⟨b,cap,rfl,hnf,htot,hlc,hv⟩:=hx.tI
  split at hb
  ·rename_i l u hl hu
   split at hb
   case isFalse=>cases hb
   rename_i hlu
   obtain⟨hlu1,hlu2,rfl⟩:=hlu
   have hr:=xB (P:=P) (w:=w) (isS:=true) (len:=len) (cap:=cap) hl hu hlu1 hlc (by omega) hrl hnl hrh hnh
   have hrun:(Instr.sliceAt t (.slice (some ⟨b,off,none⟩) len cap) LO HI none).run P w=.ok (.slice (if cap=l then some ⟨b,off,none⟩ else(some (Addr.mk b off none)).map (·.add (l * sz'))) (u - l) (cap - l)) w:=by
    simp [Instr.sliceAt,run_underlying ht,Instr.slice,oN hn,hr,Sem.run_pure]
   have hadd:Addr.add ⟨b,off,none⟩ (l * sz')=⟨b,off+l * sz',none⟩:=by
    unfold Addr.add; split <;> simp_all
   split at hb <;> simp only [ab0] at hb <;> subst hb
   ·rename_i hor
    refine⟨_,hrun,?_⟩
    have haddr:(if cap=l then some (Addr.mk b off none) else(some (Addr.mk b off none)).map (·.add (l * sz')))=some ⟨b,off+l * sz',none⟩:=by
     split
     ·have:l=0:=by omega
      subst this; simp
     ·simp only [Option.map_some,hadd]
    rw [haddr]
    refine .vslice id tot _ _ sz' b _ hnf htot (by omega) fun e=>?_
    obtain⟨l0,cap0,h1,h2,h3,h4⟩:=hv e
    exact⟨l0+l,cap0,h1,by rw [h2,al4],by omega,by omega⟩
   ·rename_i hor
    have h0:u - l=0:=by omega
    refine⟨_,hrun,?_⟩
    rw [h0]; exact .p _ _ (.slice0 _ _)
  ·cases hb
 ·cases hb
end slices
theorem Pa {t:TypeId}{ty:TypeId}(ht:P.underlying t=some .string) (hb:nQ x=some v) (hx:lM G h x X) :
  ∃V,(Builtin.len_ #[t] ty #[X]).run P w=.ok V w∧lM G h v V:=by
 unfold nQ at hb
 split at hb <;> simp only [ab0,reduceCtorEq] at hb
 subst hb
 rename_i s
 have:=hx.AD; subst this
 refine⟨.int .i64 s.length,?_,.p _ _ (.int _ _)⟩
 have hsz:(⟨s.toArray⟩:ByteArray).size=s.length:=by show s.toArray.size=_; simp
 simp [Builtin.len_,run_underlying ht,goInt,hsz,Sem.run_pure]
theorem Rg {t:TypeId}{ty e:TypeId}(ht:P.underlying t=some (.slice e)) (hb:mN x=some v) (hx:lM G h x X) :
  ∃V,(Builtin.len_ #[t] ty #[X]).run P w=.ok V w∧lM G h v V:=by
 unfold mN at hb
 split at hb <;> simp only [ab0,reduceCtorEq] at hb <;> subst hb
 ·rename_i rows tok
  have hp:=hx.wD
  refine⟨.int .i64 rows.length,?_,.p _ _ (.int _ _)⟩
  cases hp <;> simp [Builtin.len_,run_underlying ht,goInt,Sem.run_pure]
 ·rename_i id off len sz
  obtain⟨a,cap,rfl,_⟩:=hx.AS
  exact⟨.int .i64 len,by simp [Builtin.len_,run_underlying ht,goInt,Sem.run_pure],.p _ _ (.int _ _)⟩
 ·rename_i id tot off len sz
  obtain⟨a,cap,rfl,_⟩:=hx.tI
  exact⟨.int .i64 len,by simp [Builtin.len_,run_underlying ht,goInt,Sem.run_pure],.p _ _ (.int _ _)⟩
theorem Kf (hb:CS x y=some v) (hx:lM G h x X) (hy:lM G h y Y):∃V,(Builtin.max2 X Y).run P w=.ok V w∧lM G h v V:=by
 unfold CS at hb
 split at hb <;> simp only [ab0,reduceCtorEq] at hb
 subst hb
 have:=hx.q_; subst this
 have:=hy.q_; subst this
 exact⟨_,by simp [Builtin.max2,Sem.run_pure],.p _ _ (.int _ _)⟩
theorem Ki (hb:Ho x y=some v) (hx:lM G h x X) (hy:lM G h y Y):∃V,(Builtin.min2 X Y).run P w=.ok V w∧lM G h v V:=by
 unfold Ho at hb
 split at hb <;> simp only [ab0,reduceCtorEq] at hb
 subst hb
 have:=hx.q_; subst this
 have:=hy.q_; subst this
 exact⟨_,by simp [Builtin.min2,Sem.run_pure],.p _ _ (.int _ _)⟩
theorem Kj:∀{l:List kM}{L:List Value}{x v:kM}{X:Value},T0 x l=some v→lM G h x X→l.length=L.length→(∀(j:Nat) (u:kM) (U:Value),l[j]?=some u→L[j]?=some U→lM G h u U) →
  ∃V,(L.foldlM Builtin.min2 X).run P w=.ok V w∧lM G h v V
 | [],[],x,v,X,hb,hx,_,_=>by
  simp only [T0,ab0] at hb
  subst hb
  exact⟨X,rfl,hx⟩
 | [],_::_,_,_,_,_,_,hl,_=>by simp at hl
 | _::_,[],_,_,_,_,_,hl,_=>by simp at hl
 | y::r,Y::R,x,v,X,hb,hx,hl,hr=>by
  simp only [T0] at hb
  obtain⟨z,hz,hb⟩:=aa2.1 hb
  obtain⟨Z,e1,e2⟩:=Ki (P:=P) (w:=w) hz hx (hr 0 y Y rfl rfl)
  obtain⟨V,e3,e4⟩:=Kj (L:=R) hb e2 (by simpa using hl) fun j u U hu hU=>hr (j+1) u U hu hU
  exact⟨V,by simp only [List.foldlM_cons,Sem.run_bind,e1,Result.andThen_ok,e3],e4⟩
theorem Kh:∀{l:List kM}{L:List Value}{x v:kM}{X:Value},Kg x l=some v→lM G h x X→l.length=L.length→(∀(j:Nat) (u:kM) (U:Value),l[j]?=some u→L[j]?=some U→lM G h u U) →
  ∃V,(L.foldlM Builtin.max2 X).run P w=.ok V w∧lM G h v V
 | [],[],x,v,X,hb,hx,_,_=>by
  simp only [Kg,ab0] at hb
  subst hb
  exact⟨X,rfl,hx⟩
 | [],_::_,_,_,_,_,_,hl,_=>by simp at hl
 | _::_,[],_,_,_,_,_,hl,_=>by simp at hl
 | y::r,Y::R,x,v,X,hb,hx,hl,hr=>by
  simp only [Kg] at hb
  obtain⟨z,hz,hb⟩:=aa2.1 hb
  obtain⟨Z,e1,e2⟩:=Kf (P:=P) (w:=w) hz hx (hr 0 y Y rfl rfl)
  obtain⟨V,e3,e4⟩:=Kh (L:=R) hb e2 (by simpa using hl) fun j u U hu hU=>hr (j+1) u U hu hU
  exact⟨V,by simp only [List.foldlM_cons,Sem.run_bind,e1,Result.andThen_ok,e3],e4⟩
theorem Mu {t:TypeId}{fs:Array Field}{f:Nat}{fd:Field}{n:Nat}(ht:P.underlying t=some (.struct fs)) (hf:fs[f]?=some fd)
  (hn:oU P fd.type=some (n+1)) (hb:kO fd.offset x=some v) (hx:lM G h x X) :
  ∃V,(Instr.fieldAt t X f).run P w=.ok V w∧lM G h v V:=by
 have run:∀b off,(Instr.fieldAt t (.pointer (some ⟨b,off,none⟩)) f).run P w=.ok (.pointer (some (Addr.add ⟨b,off,none⟩ fd.offset))) w:=by
  intro b off
  simp [Instr.fieldAt,run_underlying ht,hf,Instr.sureAddr,fieldPlace,oN hn,Sem.run_pure]
 have hadd:∀b off,Addr.add ⟨b,off,none⟩ fd.offset=⟨b,off+fd.offset,none⟩:=by
  intro b off; unfold Addr.add; split <;> simp_all
 unfold kO at hb
 split at hb <;> simp only [ab0,reduceCtorEq] at hb <;> subst hb
 ·rename_i id o
  obtain⟨rfl,hl⟩:=hx.xV
  exact⟨_,run _ _,by rw [hadd]; exact .ptr _ _ hl⟩
 ·rename_i id tot o
  obtain⟨b,rfl,h1,h2,h3⟩:=hx.Fo
  exact⟨_,run _ _,by rw [hadd]; exact .vptr _ _ _ b h1 h2 h3⟩
 ·rename_i cs
  have hp:=hx.Fc
  cases hp with
  | pptr cs b off V hH hk hV =>
   refine⟨_,run _ _,.p _ _ ?_⟩
   rw [hadd]
   refine .pptr _ b (off+fd.offset) (fun j=>V (fd.offset+j)) ?_ ?_ ?_
   ·intro j v hj; rw [ah5] at hj; have:=hH _ v hj; rw [←this]; congr 1; omega
   ·intro j v hj; rw [ah5] at hj; exact hk _ v hj
   ·intro j v hj; rw [ah5] at hj; exact hV _ v hj
theorem My {t e:TypeId}{sz:Nat}(ht:P.underlying t=some (.slice e)) (hn:oU P e=some sz) (hb:kX sz x y=some v) (hx:lM G h x X) (hy:lM G h y Y) :
  ∃V,(Instr.indexAt t X Y).run P w=.ok V w∧lM G h v V:=by
 have hadd:∀b off k,Addr.add ⟨b,off,none⟩ k=⟨b,off+k,none⟩:=by
  intro b off k; unfold Addr.add; split <;> simp_all
 unfold kX at hb
 split at hb
 ·rename_i rows tok k n
  have:=hy.q_; subst this
  split at hb
  ·rename_i h0
   split at hb
   ·rename_i row hrow
    split at hb <;> simp only [ab0,reduceCtorEq] at hb
    rename_i hlen
    subst hb
    have hp:=hx.wD
    have hlt:n.toNat < rows.length:=(ab1.1 hrow).1
    cases hp with
    | slice0 a cap=>simp at hlt
    | slice rows b off cap sz' V hr hc hH hk hV =>
     have:sz'=sz:=by rw [←hr row (af1 hrow),hlen]
     subst this
     have hcond:(0:Int)≤n∧n < (rows.length:Int):=⟨h0,by omega⟩
     refine⟨.pointer (some (Addr.add ⟨b,off,none⟩ (n.toNat * sz'))),?_,.p _ _ ?_⟩
     ·simp [Instr.indexAt,asIntOf,run_underlying ht,hcond,oN hn,Sem.run_pure]
     ·rw [hadd]
      refine .pptr _ b _ (fun j=>V (n.toNat * sz'+j)) ?_ ?_ ?_
      ·intro j v hj; rw [←hH _ j row v hrow hj]; congr 1; omega
      ·intro j v hj; exact hk _ j row v hrow hj
      ·intro j v hj; exact hV _ j row v hrow hj
   ·cases hb
  ·cases hb
 ·rename_i id off len sz' k n
  have:=hy.q_; subst this
  split at hb <;> simp only [ab0,reduceCtorEq] at hb
  rename_i hc
  obtain⟨h0,hlt,rfl⟩:=hc
  subst hb
  obtain⟨a,cap,rfl,hlc,ha⟩:=hx.AS
  obtain⟨rfl,hlv⟩:=ha (by omega)
  refine⟨.pointer (some (Addr.add ⟨G.oP id,off,none⟩ (n.toNat * sz'))),?_,?_⟩
  ·simp [Instr.indexAt,asIntOf,run_underlying ht,h0,hlt,oN hn,Sem.run_pure]
  ·rw [hadd]; exact .ptr _ _ hlv
 ·rename_i id tot off len sz' k n
  have:=hy.q_; subst this
  split at hb <;> simp only [ab0,reduceCtorEq] at hb
  rename_i hc
  obtain⟨h0,hlt,rfl⟩:=hc
  subst hb
  obtain⟨b,cap,rfl,hnf,htot,hlc,hv⟩:=hx.tI
  refine⟨.pointer (some (Addr.add ⟨b,off,none⟩ (n.toNat * sz'))),?_,?_⟩
  ·simp [Instr.indexAt,asIntOf,run_underlying ht,h0,hlt,oN hn,Sem.run_pure]
  ·rw [hadd]
   refine .vptr _ _ _ b hnf htot fun e=>?_
   obtain⟨l0,cap0,h1,_⟩:=hv e
   exact⟨cap0,h1⟩
 ·cases hb
theorem Mx {t e:TypeId}{len sz:Nat}(ht:P.underlying t=some (.array len e)) (hn:oU P e=some sz) (hb:Cd len sz x y=some v) (hx:lM G h x X) (hy:lM G h y Y) :
  ∃V,(Instr.indexAt t X Y).run P w=.ok V w∧lM G h v V:=by
 have hadd:∀b off k,Addr.add ⟨b,off,none⟩ k=⟨b,off+k,none⟩:=by
  intro b off k; unfold Addr.add; split <;> simp_all
 unfold Cd at hb
 split at hb
 ·rename_i id off k n
  have:=hy.q_; subst this
  split at hb <;> simp only [ab0,reduceCtorEq] at hb
  rename_i hc
  subst hb
  obtain⟨rfl,hl⟩:=hx.xV
  refine⟨.pointer (some (Addr.add ⟨G.oP id,off,none⟩ (n.toNat * sz))),?_,?_⟩
  ·simp [Instr.indexAt,asIntOf,run_underlying ht,Instr.sureAddr,hc,oN hn,Sem.run_pure]
  ·rw [hadd]; exact .ptr _ _ hl
 ·rename_i cs k n
  have:=hy.q_; subst this
  split at hb <;> simp only [ab0,reduceCtorEq] at hb
  rename_i hc
  subst hb
  have hp:=hx.Fc
  cases hp with
  | pptr cs b off V hH hk hV =>
   refine⟨.pointer (some (Addr.add ⟨b,off,none⟩ (n.toNat * sz))),?_,.p _ _ ?_⟩
   ·simp [Instr.indexAt,asIntOf,run_underlying ht,Instr.sureAddr,hc,oN hn,Sem.run_pure]
   ·rw [hadd]
    refine .pptr _ b _ (fun j=>V (n.toNat * sz+j)) ?_ ?_ ?_
    ·intro j v hj; rw [ah5] at hj; rw [←hH _ v hj]; congr 1; omega
    ·intro j v hj; rw [ah5] at hj; exact hk _ v hj
    ·intro j v hj; rw [ah5] at hj; exact hV _ v hj
 ·cases hb
end
end
section
open Go Go.RowKit
theorem Ge:∀{k1 k2:List Kd}{x y:List kM}{b:Bool},rM (k1++k2) x y=some b →
  ∃p q,rM k1 (x.take k1.length) (y.take k1.length)=some p∧rM k2 (x.drop k1.length) (y.drop k1.length)=some q∧b=(p && q)
 | [],k2,x,y,b,h=>⟨true,b,by simp [rM],by simpa using h,by simp⟩
 | k::k1,k2,[],y,b,h=>by simp [rM] at h
 | k::k1,k2,_::_,[],b,h=>by simp [rM] at h
 | k::k1,k2,x::xs,y::ys,b,h=>by
  simp only [List.cons_append,rM] at h
  split at h <;> simp only [ab0,reduceCtorEq] at h
  rename_i u v hu hv
  obtain⟨p,q,h1,h2,h3⟩:=Ge hv
  exact⟨u && p,q,by simp [rM,hu,h1],by simpa using h2,by rw [←h,h3,Bool.and_assoc]⟩
theorem Ms:∀{ks:List Kd}{x y:List kM}{b:Bool},rM ks x y=some b→x.length=ks.length∧y.length=ks.length
 | [],[],[],_,_=>⟨rfl,rfl⟩
 | [],_::_,_,_,h=>by simp [rM] at h
 | [],[],_::_,_,h=>by simp [rM] at h
 | _::_,[],_,_,h=>by simp [rM] at h
 | _::_,_::_,[],_,h=>by simp [rM] at h
 | k::ks,x::xs,y::ys,b,h=>by
  simp only [rM] at h
  split at h <;> simp only [ab0,reduceCtorEq] at h
  rename_i u v hu hv
  obtain⟨h1,h2⟩:=Ms hv
  simp [h1,h2]
def Rep (G:Gh) (h:kP) (g:Bool) (cx:List kM) (X:Value):Prop :=
 match g with
 | true=>∃C:Array Value,X=.agg C∧cx.length=C.size∧∀(i:Nat) (v:kM),cx[i]?=some v→lM G h v (C.getD i undef)
 | false=>∃c,cx=[c]∧lM G h c X
section
variable {P:Program}{G:Gh}{h:kP}{w:World}{x y v:kM}{X Y:Value}
theorem U8 {t:TypeId}{g:Bool}{n off:Nat}{cx:List kM}{C:Array Value}(hg:t_ P t=some g) (hn:oU P t=some n) (h1:g=false→n=1)
  (hl:cx.length=C.size) (hr:∀(i:Nat) (v:kM),cx[i]?=some v→lM G h v (C.getD i undef)) (hle:off+n≤cx.length) :
  ∃V,(part t C off).run P w=.ok V w∧Rep G h g ((cx.drop off).take n) V:=by
 cases g with
 | true =>
  obtain⟨V,e1,e2⟩:=CT (P:=P) (w:=w) (off:=off) (v:=.agg ((cx.drop off).take n)) hg hn (by simp [apart,hle]) hl hr
  exact⟨V,e1,e2.Ac⟩
 | false =>
  have:=h1 rfl; subst this
  have hlt:off < cx.length:=by omega
  obtain⟨V,e1,e2⟩:=CT (P:=P) (w:=w) (off:=off) (v:=cx[off]) hg hn (by simp [apart,hlt]) hl hr
  exact⟨V,e1,cx[off],by rw [List.drop_eq_getElem_cons hlt,List.take_succ_cons,List.take_zero],e2⟩
theorem ER (P:Program) (G:Gh) (h:kP) (w:World) (d D:Nat)
  (ih:∀(t:TypeId) (ks:List Kd) (g:Bool) (cx cy:List kM) (X Y:Value) (b:Bool),Aj P d t=some ks→t_ P t=some g→rM ks cx cy=some b →
   Rep G h g cx X→Rep G h g cy Y→(Op.equalIn D t X Y).run P w=.ok b w)
  {cx cy:List kM}{C E:Array Value}(hlx:cx.length=C.size) (hrx:∀(i:Nat) (v:kM),cx[i]?=some v→lM G h v (C.getD i undef))
  (hly:cy.length=E.size) (hry:∀(i:Nat) (v:kM),cy[i]?=some v→lM G h v (E.getD i undef)) :
  ∀(fs:List Field) (off:Nat) (ks:List Kd) (b:Bool),Dy P (Aj P d) fs off=some ks→rM ks (cx.drop off) (cy.drop off)=some b →
   (Op.eqFields D C E fs).run P w=.ok b w
 | [],off,ks,b,hk,hb=>by
  simp only [Dy,ab0] at hk; subst hk
  have:b=true:=by
   generalize cx.drop off=a at hb; generalize cy.drop off=c at hb
   cases a <;> cases c <;> simp_all [rM]
  subst this
  simp [Op.eqFields,Sem.run_pure]
 | f::fs,off,ks,b,hk,hb=>by
  simp only [Dy] at hk
  cases hnm:(f.name == "_" || f.offset != off) with
  | true=>simp [hnm] at hk
  | false =>
   simp only [hnm,cond_false] at hk
   simp only [Bool.or_eq_false_iff,beq_eq_false_iff_ne,bne_eq_false_iff_eq] at hnm
   obtain⟨hname,hoff⟩:=hnm
   split at hk
   ·rename_i k1 hk1
    cases hsz:(oU P f.type == some k1.length && k1.length != 0) with
    | false=>simp [hsz] at hk
    | true =>
     simp only [hsz,cond_true] at hk
     simp only [Bool.and_eq_true,beq_iff_eq,bne_iff_ne,ne_eq] at hsz
     obtain⟨hsz,hne⟩:=hsz
     split at hk <;> simp only [ab0,reduceCtorEq] at hk
     rename_i k2 hk2
     subst hk
     obtain⟨p,q,e1,e2,rfl⟩:=Ge hb
     obtain⟨l1,l2⟩:=Ms e1
     obtain⟨g,hg⟩:∃g,t_ P f.type=some g:=by
      unfold t_
      cases d with
      | zero=>simp [Aj] at hk1
      | succ d =>
       simp only [Aj] at hk1
       cases hu:P.underlying f.type with
       | none=>simp [hu] at hk1
       | some dd=>cases dd <;> simp
     have h1:g=false→k1.length=1:=by
      intro hgf; subst hgf
      cases d with
      | zero=>simp [Aj] at hk1
      | succ d =>
       simp only [Aj] at hk1
       unfold t_ at hg
       cases hu:P.underlying f.type with
       | none=>simp [hu] at hk1
       | some dd=>cases dd <;> simp_all <;> subst hk1 <;> rfl
     have lx:off+k1.length≤cx.length:=by rw [ak8,al3] at l1; omega
     have ly:off+k1.length≤cy.length:=by rw [ak8,al3] at l2; omega
     obtain⟨V1,p1,r1⟩:=U8 (w:=w) (off:=off) hg hsz h1 hlx hrx lx
     obtain⟨V2,p2,r2⟩:=U8 (w:=w) (off:=off) hg hsz h1 hly hry ly
     have he:=ih f.type k1 g _ _ V1 V2 p hk1 hg e1 r1 r2
     have hrest:=ER P G h w d D ih hlx hrx hly hry fs (off+k1.length) k2 q hk2 (by simpa [List.drop_drop] using e2)
     simp only [Op.eqFields,hoff,ne_eq,hname,not_false_eq_true,if_true,Sem.run_bind,p1,p2,he,Result.andThen_ok,Sem.run_ite]
     cases p <;> simp [Sem.run_pure,hrest]
   ·cases hk
theorem Gj (P:Program) (G:Gh) (h:kP) (w:World):∀(d D:Nat),d≤D→∀(t:TypeId) (ks:List Kd) (g:Bool) (cx cy:List kM) (X Y:Value) (b:Bool),
  Aj P d t=some ks→t_ P t=some g→rM ks cx cy=some b→Rep G h g cx X→Rep G h g cy Y→(Op.equalIn D t X Y).run P w=.ok b w
 | 0,_,_,_,_,_,_,_,_,_,_,hk,_,_,_,_=>by simp [Aj] at hk
 | d+1,0,hd,_,_,_,_,_,_,_,_,_,_,_,_,_=>by omega
 | d+1,D+1,hd,t,ks,g,cx,cy,X,Y,b,hk,hg,hb,hx,hy=>by
  simp only [Aj] at hk
  have scal:g=false→∀k,ks=[k]→∃c c',cx=[c]∧cy=[c']∧lM G h c X∧lM G h c' Y∧Gu k c c'=some b:=by
   intro hgf k hks; subst hgf; subst hks
   obtain⟨c,rfl,hc⟩:=hx
   obtain⟨c',rfl,hc'⟩:=hy
   refine⟨c,c',rfl,rfl,hc,hc',?_⟩
   simp only [rM] at hb
   split at hb <;> simp_all
  split at hk
  ·rename_i hu
   have hgf:g=false:=by simpa [t_,hu] using hg.symm
   obtain⟨c,c',rfl,rfl,hc,hc',he⟩:=scal hgf .b (by simpa using hk.symm)
   unfold Gu at he
   split at he <;> simp_all
   have:=hc.Ag; subst this
   have:=hc'.Ag; subst this
   rw [run_equalIn_bool hu D]; simp_all
  ·rename_i k0 hu
   have hgf:g=false:=by simpa [t_,hu] using hg.symm
   obtain⟨c,c',rfl,rfl,hc,hc',he⟩:=scal hgf .i (by simpa using hk.symm)
   unfold Gu at he
   split at he
   ·rename_i k a k' a'
    split at he <;> simp only [ab0,reduceCtorEq] at he
    rename_i hkk; subst hkk; subst he
    have:=hc.q_; subst this
    have:=hc'.q_; subst this
    exact run_equalIn_int w D t _ _ _ _ hu
   ·simp_all
   ·simp_all
   ·cases he
  ·rename_i hu
   have hgf:g=false:=by simpa [t_,hu] using hg.symm
   obtain⟨c,c',rfl,rfl,hc,hc',he⟩:=scal hgf .s (by simpa using hk.symm)
   cases c <;> cases c' <;> simp only [Gu,ab0,reduceCtorEq] at he
   rename_i a a'
   subst he
   have:=hc.AD; subst this
   have:=hc'.AD; subst this
   have:=run_equalIn_string (P:=P) w D t ⟨a.toArray⟩ ⟨a'.toArray⟩ hu
   simpa using this
  ·rename_i fs hu
   have hgt:g=true:=by simpa [t_,hu] using hg.symm
   subst hgt
   cases hst:P.stoodInHeld t with
   | true=>simp [hst] at hk
   | false =>
    simp only [hst,cond_false] at hk
    obtain⟨C,rfl,hlx,hrx⟩:=hx
    obtain⟨E,rfl,hly,hry⟩:=hy
    have hfo:P.fieldsOf t=fs:=by simp [Program.fieldsOf,hu]
    rw [run_equalIn_struct w D t C E (by rw [hfo]; exact hu) hst,hfo]
    exact ER P G h w d D (fun t ks g cx cy X Y b=>Gj P G h w d D (by omega) t ks g cx cy X Y b) hlx hrx hly hry fs.toList 0 ks b hk (by simpa using hb)
  ·cases hk
theorem Ks {t:TypeId}{ks:List Kd}{b:Bool}{fs:Array Field}(ht:P.underlying t=some (.struct fs)) (hk:Hv P t=some ks) (xo yo:Operand)
  (hb:rX ks x y=some b) (hx:lM G h x X) (hy:lM G h y Y) :
  (do eqGuard .eql t xo yo X Y; binOp .eql t X Y:Sem Value).run P w=.ok (.bool b) w∧(do eqGuard .neq t xo yo X Y; binOp .neq t X Y:Sem Value).run P w=.ok (.bool (!b)) w:=by
 unfold Hv at hk
 split at hk
 ·rename_i ks' hks
  cases hm:P.eqGuardType P.depth t with
  | true=>simp [hm] at hk
  | false =>
   simp only [hm,cond_false,ab0] at hk; subst hk
   unfold rX at hb
   split at hb
   ·obtain⟨C,rfl,hlx,hrx⟩:=hx.Ac
    obtain⟨E,rfl,hly,hry⟩:=hy.Ac
    have he:=Gj P G h w 12 10000 (by omega) t ks' true _ _ (.agg C) (.agg E) b hks (by simp [t_,ht]) hb ⟨C,rfl,hlx,hrx⟩ ⟨E,rfl,hly,hry⟩
    constructor
    ·simp only [Sem.run_bind,run_eqGuard_agg w .eql t xo yo C E hm,Result.andThen_ok,run_eql_struct,he]
    ·simp only [Sem.run_bind,run_eqGuard_agg w .neq t xo yo C E hm,Result.andThen_ok,run_neq_struct,he]
   ·cases hb
 ·cases hk
end
end
section
open Go Go.RowKit
def nN (G:Gh) (id:Nat):lE→Option Nat
 | .cells _ | .map _ | .tcells _ _=>some (G.oP id)
 | .front _ _ _ | .vec _ _ _=>(G.cur id).ownBlock
 | _=>none
theorem pR {G:Gh}{h:kP}{id:Nat}{bl:lE}(hb:h[id]?=some bl):owner G h id=nN G id bl:=by
 unfold owner; rw [hb]; cases bl <;> rfl
theorem AV {G:Gh}{h:kP}{id b:Nat}(ho:owner G h id=some b):∃bl,h[id]?=some bl∧nN G id bl=some b:=by
 cases hb:h[id]? with
 | none=>simp [owner,hb] at ho
 | some bl=>exact⟨bl,rfl,by rw [←pR hb]; exact ho⟩
theorem ED.lt {G:Gh}{h:kP}{w:World}{id b:Nat}{bl:lE}(hk:ED G h w id bl) (ho:nN G id bl=some b):b < w.heap.size:=by
 have aux:∀{o:Obj},w.heap[b]?=some o→b < w.heap.size:=fun h=>(Array.getElem?_eq_some_iff.1 h).1
 cases bl with
 | free=>cases ho
 | gone=>cases ho
 | cells cs=>obtain⟨C,e,h1,_⟩:=hk; cases ho; exact aux h1
 | tcells t cs=>obtain⟨C,h1,_⟩:=hk; cases ho; exact aux h1
 | map es=>obtain⟨E,c,h1,_⟩:=hk; cases ho; exact aux h1
 | front n sz t =>
  rcases hk with ⟨_,h1⟩ | ⟨b',cap,C,e,h1,h2,_⟩
  ·simp [nN,h1,Value.ownBlock] at ho
  ·simp [nN,h1,Value.ownBlock] at ho; subst ho; exact aux h2
 | vec tot sz cs =>
  obtain⟨b',cap,C,e,h1,h2,_⟩:=hk
  simp [nN,h1,Value.ownBlock] at ho; subst ho; exact aux h2
theorem Inv.lt {G:Gh}{h:kP}{w:World}(i:Inv G h w) {id b:Nat}(ho:owner G h id=some b):b < w.heap.size:=by
 obtain⟨bl,hb,hob⟩:=AV ho
 exact(i.oP id bl hb).lt hob
theorem ED.abT {G G':Gh}{h h':kP}{w w':World}{id:Nat}{bl:lE}(m:EG G h G' h') (hblk:G'.oP id=G.oP id) (hcur:G'.cur id=G.cur id)
  (hh:∀b,nN G id bl=some b→w'.heap[b]?=w.heap[b]?∧∀k,G'.H b k=G.H b k) (hk:ED G h w id bl):ED G' h' w' id bl:=by
 cases bl with
 | free=>trivial
 | gone=>trivial
 | cells cs =>
  obtain⟨C,e,h1,h2,h3,h4⟩:=hk
  obtain⟨e1,e2⟩:=hh _ rfl
  exact⟨C,e,by rw [hblk,e1,h1],h2,fun k=>by rw [hblk,e2,h3],fun i v hv=>⟨(h4 i v hv).1,(h4 i v hv).2.mono m⟩⟩
 | tcells t cs =>
  obtain⟨C,h1,h2,h3,h4⟩:=hk
  obtain⟨e1,e2⟩:=hh _ rfl
  exact⟨C,by rw [hblk,e1,h1],h2,fun k=>by rw [hblk,e2,h3],fun i v hv=>⟨(h4 i v hv).1,(h4 i v hv).2.mono m⟩⟩
 | map es =>
  obtain⟨E,c,h1,h2,h3,h4,h5⟩:=hk
  obtain⟨e1,e2⟩:=hh _ rfl
  refine⟨E,c,by rw [hblk,e1,h1],h2,fun k=>by rw [hblk,e2,h3],fun i kv hv=>?_,h5⟩
  obtain⟨mm,a1,a2,a3,a4⟩:=h4 i kv hv
  exact⟨mm,a1,a2,a3.mono m.hmono,a4.mono m⟩
 | front n sz t =>
  rcases hk with ⟨h0,h1⟩ | ⟨b,cap,C,e,h1,h2,h3,h4,h5,h50,h6,h7⟩
  ·exact .inl ⟨h0,by rw [hcur,h1]⟩
  ·obtain⟨e1,e2⟩:=hh b (by simp [nN,h1,Value.ownBlock])
   exact .inr ⟨b,cap,C,e,by rw [hcur,h1],by rw [e1,h2],h3,h4,h5,h50,fun k hk=>by rw [e2,h6 k hk],h7⟩
 | vec tot sz cs =>
  obtain⟨b,cap,C,e,h1,h2,h3,h4,h5,h6,h7,h8,h9⟩:=hk
  obtain⟨e1,e2⟩:=hh b (by simp [nN,h1,Value.ownBlock])
  exact⟨b,cap,C,e,by rw [hcur,h1],by rw [e1,h2],h3,h4,h5,h6,h7,fun k=>by rw [e2,h8 k],fun i v hv=>⟨(h9 i v hv).1,(h9 i v hv).2.mono m⟩⟩
theorem Inv.push {G G':Gh}{h:kP}{ext:List lE}{w w':World}(i:Inv G h w)
  (os:w'.os=w.os) (tape:w'.tape=w.tape) (output:w'.output=w.output) (size:w.heap.size≤w'.heap.size)
  (heap:∀k,k < w.heap.size→w'.heap[k]?=w.heap[k]?)
  (gblk:∀id,id < h.length→G'.oP id=G.oP id) (gcur:∀id,id < h.length→G'.cur id=G.cur id)
  (hH:∀b k v,G.H b k=some v→G'.H b k=some v) (hHold:∀b k,b < w.heap.size→G'.H b k=G.H b k)
  (hok:∀b k v,w.heap.size≤b→G'.H b k=some v→w'.cell? ⟨b,k,none⟩=some v)
  (hnew:∀j bl,ext[j]?=some bl→EG G h G' (h++ext)→ED G' (h++ext) w' (h.length+j) bl)
  (hown:∀j bl b,ext[j]?=some bl→nN G' (h.length+j) bl=some b→w.heap.size≤b)
  (hinj:∀j j' bl bl' b,ext[j]?=some bl→ext[j']?=some bl'→nN G' (h.length+j) bl=some b→nN G' (h.length+j') bl'=some b→j=j') :
  Inv G' (h++ext) w'∧Ext G h w G' (h++ext) w':=by
 have m:EG G h G' (h++ext):=⟨hH,fun id bl hb=>by
  have hlt:id < h.length:=(ab1.1 hb).1
  refine⟨bl,by rw [af7 hlt]; exact hb,?_⟩
  have e1:=gblk id hlt
  have e2:=gcur id hlt
  cases bl <;> simp [Kind,e1,e2]⟩
 have hget:∀id bl,(h++ext)[id]?=some bl→(id < h.length∧h[id]?=some bl)∨(h.length≤id∧ext[id - h.length]?=some bl):=by
  intro id bl hb
  by_cases hlt:id < h.length
  ·rw [af7 hlt] at hb; exact .inl ⟨hlt,hb⟩
  ·rw [ac9 (by omega)] at hb; exact .inr ⟨by omega,hb⟩
 have own:∀id b,owner G' (h++ext) id=some b→(id < h.length∧owner G h id=some b)∨(h.length≤id∧w.heap.size≤b∧∃bl,ext[id - h.length]?=some bl∧nN G' id bl=some b):=by
  intro id b ho
  obtain⟨bl,hb,hob⟩:=AV ho
  rcases hget id bl hb with ⟨hlt,h1⟩ | ⟨hge,h1⟩
  ·refine .inl ⟨hlt,?_⟩
   rw [pR h1]
   cases bl <;> simp_all [nN]
  ·have he:h.length+(id - h.length)=id:=by omega
   exact .inr ⟨hge,hown _ bl b h1 (by rw [he]; exact hob),bl,h1,hob⟩
 refine⟨⟨?_,?_,?_⟩,⟨os,tape,output,size,fun b hb _=>⟨heap b hb,fun k=>hHold b k hb⟩,hH,?_,m.kinds⟩⟩
 ·intro b k v hv
  by_cases hb:b < w.heap.size
  ·rw [hHold b k hb] at hv
   rw [World.cell?_of_block (w:=w) (heap b hb)]
   exact i.ok b k v hv
  ·exact hok b k v (by omega) hv
 ·intro id bl hb
  rcases hget id bl hb with ⟨hlt,h1⟩ | ⟨hge,h1⟩
  ·refine(i.oP id bl h1).abT m (gblk id hlt) (gcur id hlt) fun b ho=>?_
   have hb:=(i.oP id bl h1).lt ho
   exact⟨heap b hb,fun k=>hHold b k hb⟩
  ·have:=hnew (id - h.length) bl h1 m
   rwa [show h.length+(id - h.length)=id by omega] at this
 ·intro x y b hx hy
  rcases own x b hx with ⟨_,h1⟩ | ⟨hx1,Kv,bl,hx3,hx4⟩ <;> rcases own y b hy with ⟨_,h2⟩ | ⟨hy1,hy2,bl',hy3,hy4⟩
  ·exact i.inj x y b h1 h2
  ·have:=i.lt h1; omega
  ·have:=i.lt h2; omega
  ·have:=hinj (x - h.length) (y - h.length) bl bl' b hx3 hy3 (by rw [show h.length+(x - h.length)=x by omega]; exact hx4) (by rw [show h.length+(y - h.length)=y by omega]; exact hy4)
   omega
 ·intro id b ho hb
  rcases own id b ho with ⟨_,h1⟩ | ⟨_,h2,_⟩
  ·exact h1
  ·omega
theorem Inv.step {G G':Gh}{h:kP}{w w':World}(i:Inv G h w) (id:Nat) (old new:lE) (hold:h[id]?=some old)
  (os:w'.os=w.os) (tape:w'.tape=w.tape) (output:w'.output=w.output) (size:w.heap.size≤w'.heap.size)
  (heap:∀k,k < w.heap.size→nN G id old≠some k→w'.heap[k]?=w.heap[k]?)
  (gblk:∀j,j≠id→G'.oP j=G.oP j) (gcur:∀j,j≠id→G'.cur j=G.cur j)
  (hH:∀b k v,G.H b k=some v→G'.H b k=some v) (hHold:∀b k,b < w.heap.size→nN G id old≠some b→G'.H b k=G.H b k)
  (hok:∀b k v,(w.heap.size≤b∨nN G id old=some b)→G'.H b k=some v→w'.cell? ⟨b,k,none⟩=some v)
  (hkind:Kind G G' id old new)
  (hnew:EG G h G' (h.set id new)→ED G' (h.set id new) w' id new)
  (hown:∀b,nN G' id new=some b→w.heap.size≤b∨nN G id old=some b) :
  Inv G' (h.set id new) w'∧Ext G h w G' (h.set id new) w':=by
 have hlt:id < h.length:=(ab1.1 hold).1
 have hsame:(h.set id new)[id]?=some new:=by simp [hlt]
 have hne:∀j,j≠id→(h.set id new)[j]?=h[j]?:=fun j hj=>List.getElem?_set_ne (Ne.symm hj)
 have m:EG G h G' (h.set id new):=⟨hH,fun j bl hb=>by
  by_cases hj:j=id
  ·subst hj; rw [hold] at hb; cases hb; exact⟨new,hsame,hkind⟩
  ·refine⟨bl,by rw [hne j hj]; exact hb,?_⟩
   have e1:=gblk j hj
   have e2:=gcur j hj
   cases bl <;> simp [Kind,e1,e2]⟩
 have own:∀j b,owner G' (h.set id new) j=some b→(j≠id∧owner G h j=some b)∨(j=id∧(w.heap.size≤b∨owner G h id=some b)):=by
  intro j b ho
  by_cases hj:j=id
  ·subst hj
   rw [pR hsame] at ho
   exact .inr ⟨rfl,by rw [pR hold]; exact hown b ho⟩
  ·refine .inl ⟨hj,?_⟩
   obtain⟨bl,hb,hob⟩:=AV ho
   rw [hne j hj] at hb
   rw [pR hb]
   have e1:=gblk j hj
   have e2:=gcur j hj
   cases bl <;> simp_all [nN]
 refine⟨⟨?_,?_,?_⟩,⟨os,tape,output,size,fun b hb hn=>?_,hH,?_,m.kinds⟩⟩
 ·intro b k v hv
  by_cases hb:b < w.heap.size∧nN G id old≠some b
  ·rw [hHold b k hb.1 hb.2] at hv
   rw [World.cell?_of_block (w:=w) (heap b hb.1 hb.2)]
   exact i.ok b k v hv
  ·refine hok b k v ?_ hv
   by_cases h1:w.heap.size≤b
   ·exact .inl h1
   ·exact .inr (Classical.byContradiction fun h2=>hb ⟨by omega,h2⟩)
 ·intro j bl hb
  by_cases hj:j=id
  ·subst hj; rw [hsame] at hb; cases hb; exact hnew m
  ·rw [hne j hj] at hb
   refine(i.oP j bl hb).abT m (gblk j hj) (gcur j hj) fun b ho=>?_
   have h1:=(i.oP j bl hb).lt ho
   have h2:nN G id old≠some b:=fun e=>hj (i.inj j id b (by rw [pR hb]; exact ho) (by rw [pR hold]; exact e))
   exact⟨heap b h1 h2,fun k=>hHold b k h1 h2⟩
 ·intro x y b hx hy
  rcases own x b hx with ⟨hx1,h1⟩ | ⟨rfl,h1⟩ <;> rcases own y b hy with ⟨hy1,h2⟩ | ⟨rfl,h2⟩
  ·exact i.inj x y b h1 h2
  ·rcases h2 with h2 | h2
   ·have:=i.lt h1; omega
   ·exact i.inj x y b h1 h2
  ·rcases h1 with h1 | h1
   ·have:=i.lt h2; omega
   ·exact i.inj x y b h1 h2
  ·rfl
 ·have:nN G id old≠some b:=fun e=>hn id (by rw [pR hold]; exact e)
  exact⟨heap b hb this,fun k=>hHold b k hb this⟩
 ·intro j b ho hb
  rcases own j b ho with ⟨_,h1⟩ | ⟨rfl,h1 | h1⟩
  ·exact h1
  ·omega
  ·exact h1
end
section
open Go Go.RowKit
theorem add_plain (b off k:Nat):Addr.add ⟨b,off,none⟩ k=⟨b,off+k,none⟩:=by unfold Addr.add; split <;> simp_all
theorem vA {h:kP}{id tot:Nat}{x:Nat×List kM}(hg:qC h id tot=some x):h[id]?=some (.vec tot x.1 x.2):=by
 unfold qC at hg
 split at hg
 ·rename_i tot' sz cs hid
  split at hg
  ·rename_i he; cases hg; rw [hid,he]
  ·cases hg
 ·cases hg
theorem Ku {h:kP}{id:Nat}{cs:List kM}(hg:mY h id=some cs):h[id]?=some (.cells cs):=by
 unfold mY at hg
 split at hg <;> simp_all
section
variable {P:Program}{G:Gh}{h:kP}{w:World}{x y v:kM}{X Y V:Value}
theorem cell_of (w:World) (g i:Nat) {C:Array Value}{t:TypeId}{fr:Nat×Nat}(hg:w.heap[g]?=some (.cells C t fr)):w.cell? ⟨g,i,none⟩=C[i]?:=by
 simp [World.cell?,hg]
theorem B3 {t:TypeId}{g:Bool}{n:Nat}(hg:t_ P t=some g) (hn:oU P t=some n) (b o:Nat) (cs:List kM) (off:Nat) (F:Nat→Value)
  (hb:apart g n cs off=some v) (hc:∀(j:Nat) (u:kM),cs[j]?=some u→off≤j→w.cell? ⟨b,o+(j - off),none⟩=some (F j)∧lM G h u (F j)) :
  ∃V,(loadVar t ⟨b,o,none⟩).run P w=.ok V w∧lM G h v V:=by
 unfold apart at hb
 cases g with
 | true =>
  simp only [cond_true] at hb
  split at hb <;> simp only [ab0,reduceCtorEq] at hb
  rename_i hle
  subst hb
  have hl:=run_loadCells (P:=P) w ⟨b,o,none⟩ n (fun j=>F (off+j)) (fun j hj=>by
   have hj':cs[off+j]?=some cs[off+j]:=ac0 (by omega)
   have:=(hc (off+j) _ hj' (by omega)).1
   rw [add_plain]
   rwa [show off+j - off=j by omega] at this)
  refine⟨.agg ((List.range n).map fun j=>F (off+j)).toArray,?_,.agg _ _ ?_ ?_⟩
  ·simp [loadVar,G0 hg,oN hn,hl,Sem.run_pure]
  ·simp; omega
  ·intro i u hu
   rw [ah3] at hu
   split at hu
   ·rename_i hi
    rw [ah5] at hu
    have:=(hc (off+i) u hu (by omega)).2
    simpa [ab2,hi] using this
   ·cases hu
 | false =>
  simp only [cond_false] at hb
  obtain⟨h1,h2⟩:=hc off v hb (ac5 _)
  refine⟨F off,?_,h2⟩
  rw [Nat.sub_self,al5] at h1
  simp [loadVar,G0 hg,run_load,h1]
theorem CR {t:TypeId}{g:Bool}{n:Nat}(hg:t_ P t=some g) (hn:oU P t=some n) (i:Inv G h w) (hb:kT g n h x=some v) (hx:lM G h x X) :
  ∃V,(Instr.loadAt t X).run P w=.ok V w∧lM G h v V:=by
 unfold kT at hb
 split at hb
 ·rename_i cs
  have hp:=hx.Fc
  cases hp with
  | pptr cs b off F hH hk hV =>
   obtain⟨V,h1,h2⟩:=B3 (P:=P) (G:=G) (h:=h) (w:=w) hg hn b off cs 0 F hb (fun j u hu _=>⟨i.ok _ _ _ (hH j u hu),.p _ _ (hV j u hu)⟩)
   exact⟨V,by simp [Instr.loadAt,Instr.sureAddr,h1],h2⟩
 ·rename_i id off
  split at hb
  ·rename_i cs hgb
   unfold mY at hgb
   split at hgb <;> simp only [ab0,reduceCtorEq] at hgb
   rename_i cs' hid
   subst hgb
   obtain⟨rfl,_⟩:=hx.xV
   obtain⟨C,e,h1,h2,h3,h4⟩:=i.oP id _ hid
   obtain⟨V,r1,r2⟩:=B3 (P:=P) (G:=G) (h:=h) (w:=w) hg hn (G.oP id) off cs' off (fun j=>C.getD j undef) hb (fun j u hu hj=>by
    have hlt:j < C.size:=by rw [h2]; exact(ab1.1 hu).1
    refine⟨?_,(h4 j u hu).2⟩
    rw [cell_of w _ _ h1,show off+(j - off)=j by omega,Array.getElem?_eq_getElem hlt]
    simp [ab2,hlt])
   exact⟨V,by simp [Instr.loadAt,Instr.sureAddr,r1],r2⟩
  ·cases hb
 ·rename_i id tot off
  split at hb
  ·rename_i x hgb
   have hid:=vA hgb
   obtain⟨tot,hX,h1,h2,h3⟩:=hx.Fo
   obtain⟨b,cap,C,e,g1,g2,g3,g4,g5,g6,g7,g8,g9⟩:=i.oP id _ hid
   obtain⟨cap0,h4⟩:=h3 (by rw [g1]; rfl)
   rw [g1] at h4
   simp only [Value.slice.injEq,ab0,Addr.mk.injEq] at h4
   obtain⟨⟨rfl,_⟩,_,rfl⟩:=h4
   subst hX
   obtain⟨V,r1,r2⟩:=B3 (P:=P) (G:=G) (h:=h) (w:=w) hg hn b off x.2 off (fun j=>C.getD j undef) hb (fun j u hu hj=>by
    have hlt:j < C.size:=by
     have:=(ab1.1 hu).1
     rw [g5]
     exact Nat.lt_of_lt_of_le (by rw [g7] at this; exact this) (aj0 _ g3)
    refine⟨?_,(g9 j u hu).2⟩
    rw [cell_of w _ _ g2,show off+(j - off)=j by omega,Array.getElem?_eq_getElem hlt]
    simp [ab2,hlt])
   exact⟨V,by simp [Instr.loadAt,Instr.sureAddr,r1],r2⟩
  ·cases hb
 ·cases hb
theorem uA (cs vs:List kM) (off:Nat) (h:off+vs.length≤cs.length):(putCells cs off vs).length=cs.length:=by
 simp [putCells]; omega
theorem xR (cs vs:List kM) (off i:Nat) (h:off+vs.length≤cs.length) :
  (putCells cs off vs)[i]?=if i < off then cs[i]? else if i < off+vs.length then vs[i - off]? else cs[i]?:=by
 unfold putCells
 by_cases h1:i < off
 ·rw [if_pos h1,af9,af7 (by simp; omega),ah3,if_pos h1]
 ·rw [if_neg h1,af9,ac9 (by simp; omega)]
  simp only [ak8]
  rw [Nat.min_eq_left (by omega)]
  by_cases h2:i < off+vs.length
  ·rw [if_pos h2,af7 (by omega)]
  ·rw [if_neg h2,ac9 (by omega),ah5]
   congr 1; omega
theorem u2 (C:Array Value) (U:List Value) (off i:Nat) (h:off+U.length≤C.size) :
  (C.toList.take off++U++C.toList.drop (off+U.length)).toArray[i]?=if i < off then C[i]? else if i < off+U.length then U[i - off]? else C[i]?:=by
 rw [List.getElem?_toArray]
 by_cases h1:i < off
 ·rw [if_pos h1,af9,af7 (by simp; omega),ah3,if_pos h1,ad3]
 ·rw [if_neg h1,af9,ac9 (by simp; omega)]
  simp only [ak8,ak1]
  rw [Nat.min_eq_left (by omega)]
  by_cases h2:i < off+U.length
  ·rw [if_pos h2,af7 (by omega)]
  ·rw [if_neg h2,ac9 (by omega),ah5,ad3]
   congr 1; omega
theorem Inv.write (i:Inv G h w) {id off:Nat}{cs vs:List kM}{C:Array Value}{e:TypeId}{U:List Value}(hid:h[id]?=some (.cells cs))
  (hC:w.heap[G.oP id]?=some (.cells C e (0,0))) (hle:off+vs.length≤cs.length) (hU:U.length=vs.length)
  (hrel:∀(j:Nat) (u:kM),vs[j]?=some u→u.mD=true∧lM G h u (U.getD j undef)) :
  Inv G (h.set id (.cells (putCells cs off vs))) (w.setRow (G.oP id) (C.toList.take off++U++C.toList.drop (off+U.length)).toArray) ∧
   Ext G h w G (h.set id (.cells (putCells cs off vs))) (w.setRow (G.oP id) (C.toList.take off++U++C.toList.drop (off+U.length)).toArray):=by
 obtain⟨C',e',h1,h2,h3,h4⟩:=i.oP id _ hid
 rw [hC] at h1
 simp only [ab0,Obj.cells.injEq] at h1
 obtain⟨rfl,rfl,_⟩:=h1
 refine i.step id (.cells cs) _ hid (by simp) (by simp) (by simp) (by simp) ?_ (fun _ _=>rfl) (fun _ _=>rfl) (fun _ _ _ hh=>hh) (fun _ _ _ _=>rfl) ?_ ?_ ?_ ?_
 ·intro k _ hk
  exact setRow_other w _ k _ (fun e=>hk (by simp [nN,e]))
 ·intro b k v hb hv
  rcases hb with hb | hb
  ·have:=i.ok b k v hv
   have hlt:b < w.heap.size:=by
    unfold World.cell? at this
    cases hh:w.heap[b]? with
    | none=>simp [hh] at this
    | some o=>exact(Array.getElem?_eq_some_iff.1 hh).1
   omega
  ·simp only [nN,ab0] at hb
   subst hb
   rw [h3] at hv; cases hv
 ·exact⟨(uA cs vs off hle).symm,rfl,rfl⟩
 ·intro m
  have hoff:off+U.length≤C.size:=by rw [hU,h2]; exact hle
  refine⟨_,e,setRow_heap w _ C _ e _ hC,?_,h3,fun j u hu=>?_⟩
  ·rw [uA cs vs off hle]; simp; omega
  ·rw [xR cs vs off j hle] at hu
   rw [ab2,u2 C U off j hoff]
   split at hu
   ·rename_i hj
    rw [if_pos hj]
    exact⟨(h4 j u hu).1,by have:=(h4 j u hu).2.mono m; rwa [ab2] at this⟩
   ·rename_i hj
    rw [if_neg hj]
    split at hu
    ·rename_i hj2
     rw [if_pos (by rw [hU]; exact hj2)]
     obtain⟨a1,a2⟩:=hrel _ u hu
     refine⟨a1,?_⟩
     have:=a2.mono m
     rwa [af6] at this
    ·rename_i hj2
     rw [if_neg (by rw [hU]; exact hj2)]
     exact⟨(h4 j u hu).1,by have:=(h4 j u hu).2.mono m; rwa [ab2] at this⟩
 ·intro b hb
  exact .inr hb
theorem Inv.OY (i:Inv G h w) {id tot sz off b cap:Nat}{cs vs:List kM}{C:Array Value}{e:TypeId}{U:List Value}(hid:h[id]?=some (.vec tot sz cs))
  (hcur:G.cur id=.slice (some ⟨b,0,none⟩) tot cap) (hC:w.heap[b]?=some (.cells C e (0,0))) (hle:off+vs.length≤cs.length) (hU:U.length=vs.length)
  (hrel:∀(j:Nat) (u:kM),vs[j]?=some u→u.mD=true∧lM G h u (U.getD j undef)) :
  Inv G (h.set id (.vec tot sz (putCells cs off vs))) (w.setRow b (C.toList.take off++U++C.toList.drop (off+U.length)).toArray) ∧
   Ext G h w G (h.set id (.vec tot sz (putCells cs off vs))) (w.setRow b (C.toList.take off++U++C.toList.drop (off+U.length)).toArray):=by
 obtain⟨b',cap',C',e',g1,g2,g3,g4,g5,g6,g7,g8,g9⟩:=i.oP id _ hid
 rw [hcur] at g1
 simp only [Value.slice.injEq,ab0,Addr.mk.injEq] at g1
 obtain⟨⟨rfl,_⟩,_,rfl⟩:=g1
 rw [hC] at g2
 simp only [ab0,Obj.cells.injEq] at g2
 obtain⟨rfl,rfl,_⟩:=g2
 have hown:nN G id (.vec tot sz cs)=some b:=by simp [nN,hcur,Value.ownBlock]
 have hcl:cs.length≤C.size:=by rw [g7,g5]; exact aj0 _ g3
 refine i.step id (.vec tot sz cs) _ hid (by simp) (by simp) (by simp) (by simp) ?_ (fun _ _=>rfl) (fun _ _=>rfl) (fun _ _ _ hh=>hh) (fun _ _ _ _=>rfl) ?_ ?_ ?_ ?_
 ·intro k _ hk
  exact setRow_other w _ k _ (fun e=>hk (by rw [hown,e]))
 ·intro b' k v hb hv
  rcases hb with hb | hb
  ·have:=i.ok b' k v hv
   have hlt:b' < w.heap.size:=by
    unfold World.cell? at this
    cases hh:w.heap[b']? with
    | none=>simp [hh] at this
    | some o=>exact(Array.getElem?_eq_some_iff.1 hh).1
   omega
  ·rw [hown] at hb
   cases hb
   rw [g8] at hv; cases hv
 ·exact⟨rfl,ac5 _,fun _=>rfl⟩
 ·intro m
  have hoff:off+U.length≤C.size:=by omega
  refine⟨b,cap,_,e,hcur,setRow_heap w _ C _ e _ hC,g3,g4,by simp; omega,g6,by rw [uA cs vs off hle]; exact g7,g8,fun j u hu=>?_⟩
  rw [xR cs vs off j hle] at hu
  rw [ab2,u2 C U off j hoff]
  split at hu
  ·rename_i hj
   rw [if_pos hj]
   exact⟨(g9 j u hu).1,by have:=(g9 j u hu).2.mono m; rwa [ab2] at this⟩
  ·rename_i hj
   rw [if_neg hj]
   split at hu
   ·rename_i hj2
    rw [if_pos (by rw [hU]; exact hj2)]
    obtain⟨a1,a2⟩:=hrel _ u hu
    refine⟨a1,?_⟩
    have:=a2.mono m
    rwa [af6] at this
   ·rename_i hj2
    rw [if_neg (by rw [hU]; exact hj2)]
    exact⟨(g9 j u hu).1,by have:=(g9 j u hu).2.mono m; rwa [ab2] at this⟩
 ·intro b' hb
  exact .inr (by rw [hown]; simpa [nN,hcur,Value.ownBlock] using hb)
theorem WU {o v u:kM}(hu:yX h o v=u):u=v∨(v=.slice [] .nil∧∃id,u=.slice [] (.own id)∧h[id]?=some (.front 0 0)):=by
 unfold yX at hu
 cases hn:v.isNil with
 | false=>rw [hn] at hu; exact .inl hu.symm
 | true =>
  rw [hn] at hu
  simp only [cond_true] at hu
  have hv:v=.slice [] .nil:=by
   unfold kM.isNil at hn
   split at hn
   ·rfl
   ·cases hn
  split at hu
  ·rename_i id
   split at hu
   ·rename_i hf; exact .inr ⟨hv,id,hu.symm,hf⟩
   ·exact .inl hu.symm
  ·exact .inl hu.symm
theorem yA:∀{os vs:List kM},(pV h os vs).length=vs.length
 | [],_=>by simp [pV]
 | _::_,[]=>by simp [pV]
 | _::os,_::vs=>by simp [pV,yA (os:=os) (vs:=vs)]
theorem E1:∀{os vs:List kM}{j:Nat}{u:kM},(pV h os vs)[j]?=some u→∃v,vs[j]?=some v∧(u=v∨(v=.slice [] .nil∧∃id,u=.slice [] (.own id)∧h[id]?=some (.front 0 0)))
 | [],vs,j,u,hu=>⟨u,by simpa [pV] using hu,.inl rfl⟩
 | _::_,[],j,u,hu=>by simp [pV] at hu
 | o::os,v::vs,0,u,hu=>by
  simp only [pV,List.getElem?_cons_zero,ab0] at hu
  exact⟨v,rfl,WU hu⟩
 | o::os,v::vs,j+1,u,hu=>by
  simp only [pV,List.getElem?_cons_succ] at hu
  obtain⟨v',h1,h2⟩:=E1 hu
  exact⟨v',by simpa using h1,h2⟩
theorem UE (i:Inv G h w) {u v:kM}{V:Value}(hk:u=v∨(v=.slice [] .nil∧∃id,u=.slice [] (.own id)∧h[id]?=some (.front 0 0))) (hc:v.mD=true) (hr:lM G h v V):u.mD=true∧lM G h u V:=by
 rcases hk with rfl | ⟨rfl,id,rfl,hf⟩
 ·exact⟨hc,hr⟩
 ·have hb:=i.oP id _ hf
  have hV:V=.slice none 0 0:=by
   cases hr with
   | p _ _ hp=>cases hp
   | nil=>rfl
  have hcur:G.cur id=.slice none 0 0:=by
   rcases hb with ⟨_,h1⟩ | ⟨b,cap,C,e,h1,h2,h3,h4,h5,h6,_⟩
   ·exact h1
   ·omega
  subst hV
  exact⟨rfl,.own [] id 0 0 _ (.slice0 none 0) hf (ac5 _) (by simp) fun _=>hcur.symm⟩
theorem BL {t:TypeId}{n:Nat}{h':kP}(hn:oU P t=some n) (i:Inv G h w) (hb:kR n h x y=some h') (hx:lM G h x X) (hy:lM G h y Y) :
  ∃w',(Instr.storeAt t X Y).run P w=.ok () w'∧Inv G h' w'∧Ext G h w G h' w':=by
 unfold kR at hb
 split at hb
 ·rename_i id off
  cases hgb:mY h id with
  | none=>simp [hgb] at hb
  | some cs' =>
   have hid:=Ku hgb
   simp only [hgb] at hb
   obtain⟨z,hz,hzr⟩:∃z:kM,y.cells=z.cells∧lM G h z Y:=⟨_,rfl,hy⟩
   rw [hz] at hb
   split at hb
   case isFalse=>cases hb
   rename_i hcond
   obtain⟨hlen,hle,hall⟩:=hcond
   injection hb with hb
   subst hb
   obtain⟨rfl,_⟩:=hx.xV
   obtain⟨C,e,h1,h2,h3,h4⟩:=i.oP id _ hid
   obtain⟨c1,c2⟩:=B5 hzr hall
   have hU:Y.cells.toList.length=z.cells.length:=by rw [ak1,c1]
   have h1c:∀u∈Y.cells.toList,u.oneCell'=true:=by
    intro u hu
    obtain⟨j,hj⟩:=List.getElem?_of_mem hu
    have hjl:j < z.cells.length:=by rw [←hU]; exact(ab1.1 hj).1
    obtain⟨a1,a2⟩:=c2 j _ (ac0 hjl)
    have hval:Y.cells.getD j undef=u:=by rw [ab2,←ad3,hj]; rfl
    rw [hval] at a2
    exact(a2.C7 a1).1
   have hst:=run_storeCells_at P (G.oP id) off e Y.cells.toList 0 C w h1 (by rw [ak1,h2]; omega) h1c
   simp only [al5] at hst
   have hw:=i.write (off:=off) (vs:=pV h (cs'.drop off) z.cells) (U:=Y.cells.toList) hid h1 (by rw [yA]; omega) (by rw [yA]; exact hU) (fun j u hu=>by
    obtain⟨v,hv,hk⟩:=E1 hu
    obtain⟨a1,a2⟩:=c2 j v hv
    rw [af6,ad3]
    rw [ab2] at a2
    exact UE i hk a1 a2)
   refine⟨_,?_,hw⟩
   have hsz:Y.cells.size=n:=by omega
   simp [Instr.storeAt,Instr.sureAddr,storeVar,oN hn,hsz,hst]
 ·rename_i id tot off
  cases hgb:qC h id tot with
  | none=>simp [hgb] at hb
  | some x0 =>
   have hid:=vA hgb
   simp only [hgb] at hb
   obtain⟨z,hz,hzr⟩:∃z:kM,y.cells=z.cells∧lM G h z Y:=⟨_,rfl,hy⟩
   rw [hz] at hb
   split at hb
   case isFalse=>cases hb
   rename_i hcond
   obtain⟨hlen,hle,hall⟩:=hcond
   injection hb with hb
   subst hb
   obtain⟨b,hX,_,_,h3⟩:=hx.Fo
   obtain⟨b',cap,C,e,g1,g2,g3,g4,g5,g6,g7,g8,g9⟩:=i.oP id _ hid
   obtain⟨cap0,h4⟩:=h3 (by rw [g1]; rfl)
   have h4':=h4
   rw [g1] at h4
   simp only [Value.slice.injEq,ab0,Addr.mk.injEq] at h4
   obtain⟨⟨rfl,_⟩,_,rfl⟩:=h4
   subst hX
   obtain⟨c1,c2⟩:=B5 hzr hall
   have hU:Y.cells.toList.length=z.cells.length:=by rw [ak1,c1]
   have h1c:∀u∈Y.cells.toList,u.oneCell'=true:=by
    intro u hu
    obtain⟨j,hj⟩:=List.getElem?_of_mem hu
    have hjl:j < z.cells.length:=by rw [←hU]; exact(ab1.1 hj).1
    obtain⟨a1,a2⟩:=c2 j _ (ac0 hjl)
    have hval:Y.cells.getD j undef=u:=by rw [ab2,←ad3,hj]; rfl
    rw [hval] at a2
    exact(a2.C7 a1).1
   have hcl:x0.2.length≤C.size:=by rw [g7,g5]; exact aj0 _ g3
   have hst:=run_storeCells_at P b' off e Y.cells.toList 0 C w g2 (by rw [ak1]; omega) h1c
   simp only [al5] at hst
   have hw:=i.OY (off:=off) (vs:=z.cells) (U:=Y.cells.toList) hid h4' g2 (by omega) hU (fun j u hu=>by
    obtain⟨a1,a2⟩:=c2 j u hu
    rw [af6,ad3]
    rw [ab2] at a2
    exact⟨a1,a2⟩)
   refine⟨_,?_,hw⟩
   have hsz:Y.cells.size=n:=by omega
   simp [Instr.storeAt,Instr.sureAddr,storeVar,oN hn,hsz,hst]
 ·cases hb
end
end
section
open Go Go.RowKit
theorem Inv.CG {G:Gh}{h:kP}{w:World}(i:Inv G h w) {b k:Nat}{v:Value}(hv:G.H b k=some v):b < w.heap.size:=by
 have:=i.ok b k v hv
 unfold World.cell? at this
 cases hh:w.heap[b]? with
 | none=>simp [hh] at this
 | some o=>exact(Array.getElem?_eq_some_iff.1 hh).1
theorem Inv.Gr {G:Gh}{h:kP}{w:World}(i:Inv G h w) {b k:Nat}(hb:w.heap.size≤b):G.H b k=none:=by
 cases hv:G.H b k with
 | none=>rfl
 | some v=>have:=i.CG hv; omega
theorem Bb:∀(vs:List kM) (k:Nat),(lD k vs).1.length=vs.length∧(∀(j:Nat) (b:lE),(lD k vs).2[j]?=some b→b=.front 0 0) ∧
  ∀(j:Nat) (c:kM),(lD k vs).1[j]?=some c→vs[j]?=some c∨(vs[j]?=some (.slice [] .nil)∧∃id,k≤id∧c=.slice [] (.own id)∧(lD k vs).2[id - k]?=some (.front 0 0))
 | [],k=>by simp [lD]
 | v::r,k=>by
  by_cases hv:v=.slice [] .nil
  ·subst hv
   obtain⟨h1,h2,h3⟩:=Bb r (k+1)
   simp only [lD]
   refine⟨by simp [h1],?_,?_⟩
   ·intro j b hb
    cases j with
    | zero=>simp at hb; exact hb.symm
    | succ j=>exact h2 j b (by simpa using hb)
   ·intro j c hc
    cases j with
    | zero=>simp at hc; subst hc; exact .inr ⟨rfl,k,ac5 _,rfl,by simp⟩
    | succ j =>
     rcases h3 j c (by simpa using hc) with h4 | ⟨h4,id,h5,h6,h7⟩
     ·exact .inl (by simpa using h4)
     ·refine .inr ⟨by simpa using h4,id,by omega,h6,?_⟩
      rw [show id - k=(id - (k+1))+1 by omega]
      simpa using h7
  ·have he:lD k (v::r)=(v::(lD k r).1,(lD k r).2):=by
    rw [lD]
    exact hv
   obtain⟨h1,h2,h3⟩:=Bb r k
   rw [he]
   refine⟨by simp [h1],h2,?_⟩
   intro j c hc
   cases j with
   | zero=>simp at hc; subst hc; exact .inl rfl
   | succ j =>
    rcases h3 j c (by simpa using hc) with h4 | ⟨h4,h5⟩
    ·exact .inl (by simpa using h4)
    ·exact .inr ⟨by simpa using h4,h5⟩
section
variable {P:Program}{G:Gh}{h:kP}{w:World}{x y v:kM}{X Y V:Value}
theorem lM.FO (r:lM G h (.slice [] .nil) V):V=.slice none 0 0:=by
 cases r with
 | p _ _ hp=>cases hp
 | nil=>rfl
def Gh.add (G:Gh) (n b:Nat):Gh:={ G with oP:=fun i=>if i=n then b else G.oP i,cur:=fun i=>if n < i then .slice none 0 0 else G.cur i }
theorem n9 (w:World) (o:Obj) (k:Nat) (hk:k < w.heap.size):(w.alloc o).heap[k]?=w.heap[k]?:=Below.heap_alloc w o k hk
theorem Inv.new (i:Inv G h w) {n:Nat}{v p:kM}{h':kP}{Z:Value}(t:TypeId) (hb:lK n h v=some (p,h')) (hr:lM G h v Z) :
  ∃G',Inv G' h' (w.alloc (.cells Z.cells t))∧Ext G h w G' h' (w.alloc (.cells Z.cells t))∧lM G' h' p (.pointer (some ⟨w.heap.size,0,none⟩))∧Z.cells.size=n:=by
 unfold lK at hb
 simp only [] at hb
 split at hb
 case isFalse=>cases hb
 rename_i hcond
 obtain⟨hlen,hall⟩:=hcond
 simp only [ab0,af8] at hb
 obtain⟨rfl,rfl⟩:=hb
 obtain⟨c1,c2⟩:=B5 hr hall
 obtain⟨t1,t2,t3⟩:=Bb v.cells (h.length+1)
 have hsz:Z.cells.size=n:=by omega
 refine⟨G.add h.length w.heap.size,?_⟩
 have key:=i.push (G':=G.add h.length w.heap.size) (ext:=.cells (lD (h.length+1) v.cells).1::(lD (h.length+1) v.cells).2) (w':=w.alloc (.cells Z.cells t))
  rfl rfl rfl (by simp) (fun k hk=>n9 w _ k hk) (fun id hid=>by simp [Gh.add]; omega) (fun id hid=>by simp [Gh.add]; omega) (fun _ _ _ hh=>hh) (fun _ _ _=>rfl)
  (fun b k v hb hv=>by have:=i.CG (b:=b) (k:=k) (v:=v) hv; omega)
  (fun j bl hj m=>by
   cases j with
   | zero =>
    simp at hj; subst hj
    refine⟨Z.cells,t,by simp only [Gh.add,al5,if_true]; exact heap_alloc_new w _,by omega,fun k=>by simp only [Gh.add,al5,if_true]; exact i.Gr (ac5 _),fun j u hu=>?_⟩
    rcases t3 j u hu with h4 | ⟨h4,id,h5,h6,h7⟩
    ·exact⟨(c2 j u h4).1,(c2 j u h4).2.mono m⟩
    ·subst h6
     obtain⟨_,hz⟩:=c2 j _ h4
     have hz:=hz.FO
     refine⟨rfl,?_⟩
     rw [hz]
     refine .own (t:=0) [] id 0 0 _ (.slice0 none 0) ?_ (ac5 _) (by simp) (fun _=>by simp only [Gh.add]; rw [if_pos (by omega)])
     rw [ac9 (by omega),show id - h.length=(id - (h.length+1))+1 by omega]
     simpa using h7
   | succ j =>
    have hj':=t2 j bl (by simpa using hj)
    subst hj'
    exact .inl ⟨rfl,by simp only [Gh.add]; rw [if_pos (by omega)]⟩)
  (fun j bl b hj ho=>by
   cases j with
   | zero=>simp at hj; subst hj; simp only [nN,Gh.add,al5,if_true,ab0] at ho; omega
   | succ j =>
    have hj':=t2 j bl (by simpa using hj)
    subst hj'
    simp only [nN,Gh.add] at ho
    rw [if_pos (by omega)] at ho
    cases ho)
  (fun j j' bl bl' b hj hj' ho ho'=>by
   have:∀j bl,(lE.cells (lD (h.length+1) v.cells).1::(lD (h.length+1) v.cells).2)[j]?=some bl→nN (G.add h.length w.heap.size) (h.length+j) bl=some b→j=0:=by
    intro j bl hj ho
    cases j with
    | zero=>rfl
    | succ j =>
     have hj':=t2 j bl (by simpa using hj)
     subst hj'
     simp only [nN,Gh.add] at ho
     rw [if_pos (by omega)] at ho
     cases ho
   rw [this j bl hj ho,this j' bl' hj' ho'])
 refine⟨key.1,key.2,?_,hsz⟩
 have hp:=lM.ptr (G:=G.add h.length w.heap.size) (h:=h++.cells (lD (h.length+1) v.cells).1::(lD (h.length+1) v.cells).2) h.length 0
  ⟨.cells (lD (h.length+1) v.cells).1,by simp,by simp⟩
 simpa [Gh.add] using hp
theorem Wa {t:TypeId}{n:Nat}{p:kM}{h':kP}(i:Inv G h w) (hb:lK n h x=some (p,h')) (hx:lM G h x X) :
  ∃V w' G',(Instr.box t X).run P w=.ok V w'∧Inv G' h' w'∧Ext G h w G' h' w'∧lM G' h' p V:=by
 obtain⟨G',h1,h2,h3,_⟩:=i.new t hb hx
 exact⟨_,_,G',by simp [Instr.box,newVar,newRow,Sem.run_pure],h1,h2,h3⟩
theorem sI {t:TypeId}{z:kM}(hz:tA P t=some z):∃Z,(zeroValue t).run P w=.ok Z w∧lM G h z Z:=by
 unfold tA at hz
 cases hi:P.info? t with
 | none=>simp [hi] at hz
 | some ti =>
  cases hzz:ti.zero with
  | none=>simp [hi,hzz] at hz
  | some Z =>
   simp [hi,hzz] at hz; subst hz
   exact⟨Z,by simp [zeroValue,Go.typeInfo,hi,hzz,Sem.run_pure],wW G h Z⟩
theorem Q9 {t:TypeId}{n:Nat}{z p:kM}{h':kP}(i:Inv G h w) (hz:tA P t=some z) (hb:lK n h z=some (p,h')) :
  ∃V w' G',(Instr.alloc t true (.tuple #[])).run P w=.ok V w'∧Inv G' h' w'∧Ext G h w G' h' w'∧lM G' h' p V:=by
 obtain⟨Z,hz1,hz2⟩:=sI (P:=P) (G:=G) (h:=h) (w:=w) hz
 obtain⟨G',h1,h2,h3,_⟩:=i.new t hb hz2
 refine⟨_,_,G',?_,h1,h2,h3⟩
 simp [Instr.alloc,hz1,newVar,newRow,Sem.run_pure]
end
end
section
open Go Go.RowKit
theorem Qb (off:Nat):∀(us:List Value) (k:Nat) (C:Array Value),off+k+us.length≤C.size →
  ((us.zipIdx k).foldl (fun(cs:Array Value) p=>cs.setIfInBounds (off+p.2) p.1) C)=(C.toList.take (off+k)++us++C.toList.drop (off+k+us.length)).toArray
 | [],k,C,_=>by simp
 | u::us,k,C,hl=>by
  simp only [List.zipIdx_cons,List.foldl_cons]
  rw [Qb off us (k+1) (C.setIfInBounds (off+k) u) (by simp at hl ⊢; omega)]
  congr 1
  have e:=list_seg_step C.toList (off+k) u us (by simp at hl ⊢; omega)
  simpa [Array.toList_setIfInBounds,Nat.add_assoc] using e
section
variable {P:Program}{G:Gh}{h:kP}{w:World}{x y v:kM}{X Y V:Value}
theorem xF (hj:x.pL=false) (hx:lM G h x X):x.cells.length=X.cells.size∧∀(i:Nat) (u:kM),x.cells[i]?=some u→lM G h u (X.cells.getD i undef):=by
 by_cases ha:∃cs,x=.agg cs
 ·obtain⟨cs,rfl⟩:=ha
  obtain⟨C,rfl,hl,hr⟩:=hx.Ac
  exact⟨hl,hr⟩
 ·have hc:x.cells=[x]:=by cases x <;> simp_all [kM.cells]
  have hX:X.cells=#[X]:=by
   cases hx with
   | p _ _ hp=>cases hp <;> simp_all [kM.pL,Value.cells]
   | own _ _ _ _ _ hp=>cases hp <;> simp [Value.cells]
   | ownv _ _ hp=>cases hp <;> simp [Value.cells]
   | _=>simp_all [Value.cells]
  rw [hc,hX]
  refine⟨rfl,fun i u hu=>?_⟩
  cases i with
  | zero=>simp at hu; subst hu; simpa using hx
  | succ i=>simp at hu
def KZ (G:Gh) (h:kP) (cs:List kM) (C:Array Value):Prop:=cs.length=C.size∧∀(i:Nat) (u:kM),cs[i]?=some u→lM G h u (C.getD i undef)
theorem KZ.put {cs vs:List kM}{C:Array Value}{U:List Value}{off:Nat}(hc:KZ G h cs C) (hle:off+vs.length≤cs.length) (hU:U.length=vs.length)
  (hr:∀(j:Nat) (u:kM),vs[j]?=some u→lM G h u (U.getD j undef)):KZ G h (putCells cs off vs) (C.toList.take off++U++C.toList.drop (off+U.length)).toArray:=by
 obtain⟨h1,h2⟩:=hc
 have hoff:off+U.length≤C.size:=by omega
 refine⟨by rw [uA cs vs off hle]; simp; omega,fun j u hu=>?_⟩
 rw [xR cs vs off j hle] at hu
 rw [ab2,u2 C U off j hoff]
 split at hu
 ·rename_i hj; rw [if_pos hj]; have:=h2 j u hu; rwa [ab2] at this
 ·rename_i hj
  rw [if_neg hj]
  split at hu
  ·rename_i hj2; rw [if_pos (by omega)]; have:=hr _ u hu; rwa [af6] at this
  ·rename_i hj2; rw [if_neg (by omega)]; have:=h2 j u hu; rwa [ab2] at this
theorem D7 (place:Nat→Option (Nat×Nat)) (places:List (Nat×Nat)) (hp:∀i p,places[i]?=some p→place i=some p) :
  ∀(parts:List (Nat×kM)) (PS:List (Nat×Value)) (zero:List kM) (Z:Array Value) (r:kM),KZ G h zero Z →
   (parts.map (·.1)=PS.map (·.1))→(∀(j:Nat) a b,parts[j]?=some a→PS[j]?=some b→lM G h a.2 b.2)→lS zero places parts=some r →
   ∃C cs,Instr.fill place Z PS=some C∧r=.agg cs∧KZ G h cs C
 | [],PS,zero,Z,r,hz,hm,_,hb=>by
  have:PS=[]:=by simpa using hm.symm
  subst this
  simp only [lS,ab0] at hb; subst hb
  exact⟨Z,zero,rfl,rfl,hz⟩
 | (i,u)::rest,[],zero,Z,r,_,hm,_,_=>by simp at hm
 | (i,u)::rest,(i',U)::PS,zero,Z,r,hz,hm,hr,hb=>by
  simp only [List.map_cons,List.cons.injEq] at hm
  obtain⟨rfl,hm⟩:=hm
  simp only [lS] at hb
  split at hb
  ·rename_i off n hpl
   split at hb
   case isFalse=>cases hb
   rename_i hcond
   obtain⟨hj,hn,hle⟩:=hcond
   have hU:lM G h u U:=hr 0 (i,u) (i,U) rfl rfl
   obtain⟨c1,c2⟩:=xF hj hU
   subst hn
   have hpl':=hp i _ hpl
   have hput:=hz.put (U:=U.cells.toList) hle (by simpa using c1.symm) (fun j a ha=>by
    have:=c2 j a ha
    rw [af6,ad3]
    rwa [ab2] at this)
   obtain⟨C,cs,e1,e2,e3⟩:=D7 place places hp rest PS _ _ r hput hm (fun j a b ha hb=>hr (j+1) a b (by simpa using ha) (by simpa using hb)) hb
   refine⟨C,cs,?_,e2,e3⟩
   have hzl:zero.length=Z.size:=hz.1
   have hfold:=Qb off U.cells.toList 0 Z (by rw [ak1]; omega)
   simp only [al5] at hfold
   have hsz:U.cells.size=u.cells.length:=c1.symm
   simp only [Instr.fill,hpl',hsz,ne_eq,not_true_eq_false,false_or]
   rw [if_neg (by simp; omega)]
   rw [←Array.foldl_toList,Array.toList_zipIdx,hfold]
   exact e1
  ·cases hb
theorem O8 {t:TypeId}{fs:Array Field}{z r:kM}{places:List (Nat×Nat)}{parts:Array (Nat×Operand)}{f:Operand→kM}{F:Operand→Value}
  (ht:P.underlying t=some (.struct fs)) (hz:tA P t=some z) (hp:fs.toList.mapM (fun f=>(oU P f.type).map fun n=>(f.offset,n))=some places) (hf:∀o,lM G h (f o) (F o))
  (hzj:z.pL=false) (hb:lS z.cells places (parts.toList.map fun p=>(p.1,f p.2))=some r) :
  ∃V,(Instr.build t (parts.map fun(i,x)=>(i,F x))).run P w=.ok V w∧lM G h r V:=by
 obtain⟨Z,hz1,hz2⟩:=sI (P:=P) (G:=G) (h:=h) (w:=w) hz
 have hmap:∀(l:List Field) (ps:List (Nat×Nat)),l.mapM (fun f=>(oU P f.type).map fun n=>(f.offset,n))=some ps →
   (l.mapM (fun f=>(Prod.mk f.offset <$> Go.sizeOf f.type:Sem (Nat×Nat)))).run P w=.ok ps w:=by
  intro l
  induction l with
  | nil=>intro ps hps; simp at hps; subst hps; simp [Sem.run_pure]
  | cons f l ih =>
   intro ps hps
   simp only [List.mapM_cons,Option.bind_eq_bind,aa2] at hps
   obtain⟨a,ha,bs,hbs,hps⟩:=hps
   cases hs:oU P f.type with
   | none=>simp [hs] at ha
   | some n =>
    simp [hs] at ha; subst ha
    simp only [Option.pure_def,ab0] at hps; subst hps
    simp only [List.mapM_cons,map_eq_pure_bind] at ih ⊢
    simp only [Sem.run_bind,oN hs,Sem.run_pure,Result.andThen_ok,ih bs hbs]
 have hmapA:(fs.mapM (fun f=>(Prod.mk f.offset <$> Go.sizeOf f.type:Sem (Nat×Nat)))).run P w=.ok places.toArray w:=by
  rw [Array.mapM_eq_mapM_toList]
  have:=hmap fs.toList places hp
  simp only [map_eq_pure_bind] at this
  simp only [map_eq_pure_bind,Sem.run_bind,this,Result.andThen_ok,Sem.run_pure]
 obtain⟨C,cs,e1,rfl,e3⟩:=D7 (G:=G) (h:=h) (fun i=>places.toArray[i]?) places (by simp) _ (parts.toList.map fun p=>(p.1,F p.2)) z.cells Z.cells r (xF hzj hz2)
  (by simp) (fun j a b ha hb=>by
   simp only [ai1,ac6] at ha hb
   obtain⟨p,hp1,rfl⟩:=ha
   obtain⟨q,hq1,rfl⟩:=hb
   rw [hp1] at hq1; cases hq1
   exact hf _) hb
 refine⟨.agg C,?_,.agg _ _ e3.1 e3.2⟩
 simp only [List.getElem?_toArray] at e1
 simp [Instr.build,hz1,run_underlying ht,hmapA,e1,Sem.run_pure]
theorem Ra {t e:TypeId}{len n:Nat}{z r:kM}{parts:Array (Nat×Operand)}{f:Operand→kM}{F:Operand→Value}
  (ht:P.underlying t=some (.array len e)) (hz:tA P t=some z) (hn:oU P e=some n) (hf:∀o,lM G h (f o) (F o))
  (hzj:z.pL=false) (hb:lS z.cells ((List.range len).map fun i=>(i * n,n)) (parts.toList.map fun p=>(p.1,f p.2))=some r) :
  ∃V,(Instr.build t (parts.map fun(i,x)=>(i,F x))).run P w=.ok V w∧lM G h r V:=by
 obtain⟨Z,hz1,hz2⟩:=sI (P:=P) (G:=G) (h:=h) (w:=w) hz
 obtain⟨C,cs,e1,rfl,e3⟩:=D7 (G:=G) (h:=h) (fun i=>some (i * n,n)) ((List.range len).map fun i=>(i * n,n)) (fun i p hp=>by
   simp only [ai1,ac6] at hp
   obtain⟨a,ha,rfl⟩:=hp
   have:=(ab1.1 ha).2
   simp at this; rw [this]) _ (parts.toList.map fun p=>(p.1,F p.2)) z.cells Z.cells r (xF hzj hz2)
  (by simp) (fun j a b ha hb=>by
   simp only [ai1,ac6] at ha hb
   obtain⟨p,hp1,rfl⟩:=ha
   obtain⟨q,hq1,rfl⟩:=hb
   rw [hp1] at hq1; cases hq1
   exact hf _) hb
 refine⟨.agg C,?_,.agg _ _ e3.1 e3.2⟩
 simp [Instr.build,hz1,run_underlying ht,oN hn,e1,Sem.run_pure]
theorem zV {c c' : kM} {V : Value} (hp : c.C8 = some c') (hr : lM G h c V) : rC G.H c' V ∧ c'.mD = true := by
  unfold kM.C8 at hp
  split at hp <;> simp only [ab0, reduceCtorEq] at hp <;> subst hp
  all_goals first
    | exact ⟨hr.wD, rfl⟩
    | (refine ⟨?_, rfl⟩; cases hr with | p _ _ h => exact h)
    | (refine ⟨?_, rfl⟩
       cases hr with
       | p _ _ h => exact h
       | func f first cap F C hlf hlc hf hc =>
         have h1 : F = #[] := Array.eq_empty_of_size_eq_zero hlf.symm
         have h2 : C = #[] := Array.eq_empty_of_size_eq_zero hlc.symm
         subst h1; subst h2; exact .func _)
theorem tJ:∀{cs row:List kM},n_ cs=some row→row.length=cs.length∧∀(j:Nat) (c:kM),cs[j]?=some c→∃c',row[j]?=some c'∧c.C8=some c'
 | [],row,hp=>by simp only [n_,ab0] at hp; subst hp; simp
 | v::r,row,hp=>by
  simp only [n_] at hp
  split at hp <;> simp only [ab0,reduceCtorEq] at hp
  rename_i a b ha hb
  subst hp
  obtain⟨h1,h2⟩:=tJ hb
  refine⟨by simp [h1],fun j c hc=>?_⟩
  cases j with
  | zero=>simp at hc; subst hc; exact⟨a,rfl,ha⟩
  | succ j=>obtain⟨c',e1,e2⟩:=h2 j c (by simpa using hc); exact⟨c',by simpa using e1,e2⟩
theorem uN:∀(n sz:Nat) (cs:List kM),n * sz≤cs.length→(rowsOf n sz cs).length=n∧(∀r∈rowsOf n sz cs,r.length=sz) ∧
  ∀(i j:Nat) (row:List kM) (c:kM),(rowsOf n sz cs)[i]?=some row→row[j]?=some c→cs[i * sz+j]?=some c
 | 0,sz,cs,_=>by simp [rowsOf]
 | n+1,sz,cs,hl=>by
  have hl':n * sz≤(cs.drop sz).length:=by rw [al3]; rw [al4] at hl; omega
  obtain⟨h1,h2,h3⟩:=uN n sz (cs.drop sz) hl'
  simp only [rowsOf]
  have hsz:(cs.take sz).length=sz:=by rw [ak8]; rw [al4] at hl; omega
  refine⟨by simp [h1],?_,?_⟩
  ·intro r hr
   rcases List.mem_cons.1 hr with rfl | hr
   ·exact hsz
   ·exact h2 r hr
  ·intro i j row c hi hj
   cases i with
   | zero =>
    simp at hi; subst hi
    rw [ah3] at hj
    split at hj
    ·simpa using hj
    ·cases hj
   | succ i =>
    have:=h3 i j row c (by simpa using hi) hj
    rw [ah5] at this
    rw [show(i+1) * sz+j=sz+(i * sz+j) by rw [al4]; omega]
    exact this
theorem DO {H:Nat→Nat→Option Value}{n sz b off cap:Nat}{row:List kM}{F:Nat→Value}(hl:n * sz≤row.length) (hc:n≤cap)
  (hH:∀(j:Nat) (c:kM),row[j]?=some c→j < n * sz→H b (off+j)=some (F j)∧rC H c (F j)∧c.mD=true) :
  rC H (.slice (rowsOf n sz row) .no) (.slice (some ⟨b,off,none⟩) n cap):=by
 obtain⟨h1,h2,h3⟩:=uN n sz row hl
 have hb:∀(i j:Nat) (r:List kM) (c:kM),(rowsOf n sz row)[i]?=some r→r[j]?=some c→row[i * sz+j]?=some c∧i * sz+j < n * sz:=by
  intro i j r c hi hj
  refine⟨h3 i j r c hi hj,?_⟩
  have hi':i < n:=by rw [←h1]; exact(ab1.1 hi).1
  have hj':j < sz:=by rw [←h2 r (af1 hi)]; exact(ab1.1 hj).1
  calc i * sz+j < i * sz+sz:=by omega
   _=(i+1) * sz:=by rw [al4]; omega
   _≤n * sz:=aj0 _ hi'
 have:=rC.slice (H:=H) (rowsOf n sz row) b off cap sz F h2 (by rw [h1]; exact hc)
  (fun i j r c hi hj=>by obtain⟨a1,a2⟩:=hb i j r c hi hj; exact(hH _ c a1 a2).1)
  (fun i j r c hi hj=>by obtain⟨a1,a2⟩:=hb i j r c hi hj; exact(hH _ c a1 a2).2.2)
  (fun i j r c hi hj=>by obtain⟨a1,a2⟩:=hb i j r c hi hj; exact(hH _ c a1 a2).2.1)
 rwa [h1] at this
end
end
section
open Go Go.RowKit
section
variable {P:Program}{G:Gh}{h:kP}{w:World}{x y v:kM}{X Y V:Value}
def Gh.tY (G:Gh) (n b:Nat) (C:Array Value) (V:Value):Gh :=
 {G with H:=fun c k=>if c=b then C[k]? else G.H c k,cur:=fun i=>if i=n then V else G.cur i }
theorem Inv.newRow (i:Inv G h w) {len sz:Nat}{cs row:List kM}{C:Array Value}(e:TypeId) (hc:KZ G h cs C) (hp:n_ cs=some row) (hl:C.size=len * sz) (hmax:len≤maxLen) (hsz0:0 < sz) :
  ∃G',Inv G' (h++[.front len sz]) (w.alloc (.cells C e))∧Ext G h w G' (h++[.front len sz]) (w.alloc (.cells C e)) ∧
   lM G' (h++[.front len sz]) (.slice (rowsOf len sz row) (.own h.length)) (.slice (some ⟨w.heap.size,0,none⟩) len len):=by
 obtain⟨p1,p2⟩:=tJ hp
 obtain⟨c1,c2⟩:=hc
 have hHlt:∀{b k v},G.H b k=some v→b≠w.heap.size:=fun hv=>by have:=i.CG hv; omega
 refine⟨G.tY h.length w.heap.size C (.slice (some ⟨w.heap.size,0,none⟩) len len),?_⟩
 have hmono:∀b k v,G.H b k=some v→(G.tY h.length w.heap.size C (.slice (some ⟨w.heap.size,0,none⟩) len len)).H b k=some v:=by
  intro b k v hv; simp only [Gh.tY,if_neg (hHlt hv),hv]
 have key:=i.push (G':=G.tY h.length w.heap.size C (.slice (some ⟨w.heap.size,0,none⟩) len len)) (ext:=[.front len sz]) (w':=w.alloc (.cells C e))
  rfl rfl rfl (by simp) (fun k hk=>n9 w _ k hk) (fun id hid=>rfl) (fun id hid=>by simp only [Gh.tY]; rw [if_neg (by omega)]) hmono
  (fun b k hb=>by simp only [Gh.tY]; rw [if_neg (by omega)])
  (fun b k v hb hv=>by
   by_cases hbe:b=w.heap.size
   ·subst hbe
    simp only [Gh.tY,if_true] at hv
    rw [cell_of _ _ _ (heap_alloc_new w _),hv]
   ·simp only [Gh.tY,if_neg hbe] at hv
    have:=i.CG hv; omega)
  (fun j bl hj m=>by
   cases j with
   | zero =>
    simp at hj; subst hj
    refine .inr ⟨w.heap.size,len,C,e,by simp [Gh.tY],heap_alloc_new w _,ac5 _,hmax,hl,hsz0,fun k hk=>?_,fun h=>absurd rfl h⟩
    simp only [Gh.tY,if_true]
    exact Array.getElem?_eq_none (by omega)
   | succ j=>simp at hj)
  (fun j bl b hj ho=>by
   cases j with
   | zero=>simp at hj; subst hj; simp only [nN,Gh.tY,al5,if_true,Value.ownBlock,ab0] at ho; omega
   | succ j=>simp at hj)
  (fun j j' bl bl' b hj hj' _ _=>by
   have h1:j < 1:=by simpa using (ab1.1 hj).1
   have h2:j' < 1:=by simpa using (ab1.1 hj').1
   omega)
 refine⟨key.1,key.2,?_⟩
 have hlen:(rowsOf len sz row).length=len:=(uN len sz row (by omega)).1
 refine .own (t:=0) _ h.length len sz _ ?_ (by simp) (by omega) (uN len sz row (by omega)).2.1 (fun _=>by simp [Gh.tY])
 refine DO (F:=fun j=>C.getD j undef) (by omega) (ac5 _) fun j c hj hlt=>?_
 have hjl:j < C.size:=by omega
 obtain⟨c0,hc0⟩:∃c0,cs[j]?=some c0:=⟨cs[j]'(by omega),ac0 (by omega)⟩
 obtain⟨c',e1,e2⟩:=p2 j c0 hc0
 rw [hj] at e1; cases e1
 obtain⟨q1,q2⟩:=zV e2 (c2 j c0 hc0)
 refine⟨?_,q1.mono hmono,q2⟩
 simp [Gh.tY,ab2,hjl]
theorem Aw {zc:List kM}{Z:Array Value}(hz:KZ G h zc Z):∀(len:Nat),KZ G h (aj3 len zc).flatten ((Array.range (len * Z.size)).map fun j=>Z[j % Z.size]!):=by
 intro len
 obtain⟨h1,h2⟩:=hz
 refine⟨by simp [h1],fun j u hu=>?_⟩
 have hlt:j < len * zc.length:=by
  have:=(ab1.1 hu).1
  simpa using this
 have hpos:0 < zc.length:=by
  rcases Nat.eq_zero_or_pos zc.length with h0 | h0
  ·rw [h0] at hlt; omega
  ·exact h0
 have hmod:j % zc.length < zc.length:=Nat.mod_lt _ hpos
 have hflat:∀(n j:Nat),j < n * zc.length→(aj3 n zc).flatten[j]?=zc[j % zc.length]?:=by
  intro n
  induction n with
  | zero=>intro j hj; omega
  | succ n ih =>
   intro j hj
   rw [List.replicate_succ,List.flatten_cons]
   by_cases hjl:j < zc.length
   ·rw [af7 hjl,Nat.mod_eq_of_lt hjl]
   ·rw [ac9 (by omega),ih (j - zc.length) (by rw [al4] at hj; omega)]
    rw [Nat.mod_eq_sub_mod (a:=j) (by omega)]
 rw [hflat len j hlt] at hu
 have:=h2 _ u hu
 rw [h1] at hlt hmod this
 have e:((Array.range (len * Z.size)).map fun j=>Z[j % Z.size]!).getD j undef=Z.getD (j % Z.size) undef:=by
  simp [ab2,hlt,hmod]
 rw [e]; exact this
theorem Dv {t e:TypeId}{len sz:Nat}{z:kM}{cs:List kM}{parts:Array (Nat×Operand)}{f:Operand→kM}{F:Operand→Value}
  (ht:P.underlying t=some (.slice e)) (hz:tA P e=some z) (hn:oU P e=some sz) (hsz:sz≠0) (hle:len * sz≤16777216) (hf:∀o,lM G h (f o) (F o)) (hzj:z.pL=false) (hzl:z.cells.length=sz)
  (hbd:lS (aj3 len z.cells).flatten ((List.range len).map fun i=>(i * sz,sz)) (parts.toList.map fun p=>(p.1,f p.2))=some (.agg cs)) :
  ∃C,KZ G h cs C∧C.size=len * sz∧len≤maxLen ∧
   (Instr.buildSlice t len (parts.map fun(i,x)=>(i,F x))).run P w=.ok (.slice (some ⟨w.heap.size,0,none⟩) len len) (w.alloc (.cells C e)):=by
 obtain⟨Z,hz1,hz2⟩:=sI (P:=P) (G:=G) (h:=h) (w:=w) hz
 have hzc:=xF hzj hz2
 have hZs:Z.cells.size=sz:=by rw [←hzl]; exact hzc.1.symm
 obtain⟨C,cs',e1,e2,e3⟩:=D7 (G:=G) (h:=h) (fun i=>some (i * sz,sz)) ((List.range len).map fun i=>(i * sz,sz)) (fun i p hp=>by
   simp only [ai1,ac6] at hp
   obtain⟨a,ha,rfl⟩:=hp
   have:=(ab1.1 ha).2
   simp at this; rw [this]) _ (parts.toList.map fun p=>(p.1,F p.2)) _ _ _ (Aw hzc len)
  (by simp) (fun j a b ha hb=>by
   simp only [ai1,ac6] at ha hb
   obtain⟨p,hp1,rfl⟩:=ha
   obtain⟨q,hq1,rfl⟩:=hb
   rw [hp1] at hq1; cases hq1
   exact hf _) hbd
 cases e2
 have hlen:∀(places:List (Nat×Nat)) (parts:List (Nat×kM)) (zc:List kM) (r:kM),lS zc places parts=some r→∃cs,r=.agg cs∧cs.length=zc.length:=by
  intro places parts
  induction parts with
  | nil=>intro zc r hr; simp only [lS,ab0] at hr; exact⟨zc,hr.symm,rfl⟩
  | cons p parts ih =>
   intro zc r hr
   simp only [lS] at hr
   split at hr
   ·split at hr
    case isFalse=>cases hr
    rename_i hc
    obtain⟨cs,e1,e2⟩:=ih _ _ hr
    refine⟨cs,e1,e2.trans ?_⟩
    exact uA _ _ _ (by obtain⟨_,h2,h3⟩:=hc; omega)
   ·cases hr
 obtain⟨cs2,e4,e5⟩:=hlen _ _ _ _ hbd
 cases e4
 have hCs:C.size=len * sz:=by
  rw [←e3.1,e5]; simp [hzl]
 refine⟨C,e3,hCs,by
  have:len≤len * sz:=Nat.le_mul_of_pos_right _ (by omega)
  simp only [maxLen]; omega,?_⟩
 have hnle:¬(len * sz > 2 ^ 24):=by omega
 rw [hZs] at e1
 by_cases h0:len * sz=0
 ·have hl0:len=0:=by
   rcases Nat.mul_eq_zero.1 h0 with h1 | h1
   ·exact h1
   ·exact absurd h1 hsz
  subst hl0
  have hE:∀g:Nat→Value,Array.map g (Array.range 0)=#[]:=fun g=>Array.eq_empty_of_size_eq_zero (by simp)
  simp only [Nat.zero_mul,hE] at e1
  simp [Instr.buildSlice,run_underlying ht,oN hn,hE,e1,newRow,Sem.run_pure]
 ·simp [Instr.buildSlice,run_underlying ht,oN hn,hnle,h0,hz1,hZs,e1,newRow,Sem.run_pure]
theorem Ch {t e:TypeId}{len sz:Nat}{z:kM}{rows:List (List kM)}{parts:Array (Nat×Operand)}{f:Operand→kM}{F:Operand→Value}
  (ht:P.underlying t=some (.slice e)) (hz:tA P e=some z) (hn:oU P e=some sz) (hsz:sz≠0) (hle:len * sz≤16777216) (hf:∀o,lM G h (f o) (F o)) (hzj:z.pL=false)
  (hb:tS len sz z.cells (parts.toList.map fun p=>(p.1,f p.2))=some rows) :
  ∃cs row C,n_ cs=some row∧rows=rowsOf len sz row∧KZ G h cs C∧C.size=len * sz∧len≤maxLen ∧
   (Instr.buildSlice t len (parts.map fun(i,x)=>(i,F x))).run P w=.ok (.slice (some ⟨w.heap.size,0,none⟩) len len) (w.alloc (.cells C e)):=by
 unfold tS at hb
 split at hb
 ·rename_i cs hbd
  split at hb
  ·rename_i row hrow
   split at hb
   case isFalse=>cases hb
   rename_i hcond
   obtain⟨hzl,hall⟩:=hcond
   simp only [ab0] at hb
   subst hb
   obtain⟨C,e3,hCs,hm,hrun⟩:=Dv (G:=G) (h:=h) (w:=w) ht hz hn hsz hle hf hzj hzl hbd
   exact⟨cs,row,C,hrow,rfl,e3,hCs,hm,hrun⟩
  ·cases hb
 ·cases hb
theorem Hl {t e:TypeId}{len sz:Nat}{z r:kM}{h':kP}{parts:Array (Nat×Operand)}{f:Operand→kM}{F:Operand→Value}
  (i:Inv G h w) (ht:P.underlying t=some (.slice e)) (hz:tA P e=some z) (hn:oU P e=some sz) (hsz:sz≠0) (hle:len * sz≤16777216) (hf:∀o,lM G h (f o) (F o)) (hzj:z.pL=false)
  (hb:kW len sz z.cells (parts.toList.map fun p=>(p.1,f p.2)) h=some (r,h')) :
  ∃V w' G',(Instr.buildSlice t len (parts.map fun(i,x)=>(i,F x))).run P w=.ok V w'∧Inv G' h' w'∧Ext G h w G' h' w'∧lM G' h' r V:=by
 unfold kW at hb
 split at hb
 ·rename_i rows hrows
  simp only [ab0,af8] at hb
  obtain⟨rfl,rfl⟩:=hb
  obtain⟨cs,row,C,h1,rfl,h3,h4,h5,h6⟩:=Ch (G:=G) (h:=h) (w:=w) ht hz hn hsz hle hf hzj hrows
  obtain⟨G',g1,g2,g3⟩:=i.newRow e h3 h1 h4 h5 (by omega)
  exact⟨_,_,G',h6,g1,g2,g3⟩
 ·cases hb
end
end
section
open Go Go.RowKit
theorem Inv.drew {G:Gh}{h:kP}{w:World}(i:Inv G h w):Inv G h w.drew:=⟨i.ok,fun id bl hb=>by have:=i.oP id bl hb; cases bl <;> exact this,i.inj⟩
theorem Inv.drawn {G:Gh}{h:kP}{w:World}(i:Inv G h w) (d:Nat):Inv G h { w with drawn:=d }:=⟨i.ok,fun id bl hb=>by have:=i.oP id bl hb; cases bl <;> exact this,i.inj⟩
theorem Ext.drawn (G:Gh) (h:kP) (w:World) (d:Nat):Ext G h w G h { w with drawn:=d } :=
 ⟨rfl,rfl,rfl,ac5 _,fun _ _ _=>⟨rfl,fun _=>rfl⟩,fun _ _ _ h=>h,fun _ _ h _=>h,fun id bl hb=>⟨bl,hb,Kind.refl G id bl⟩⟩
theorem Ext.drew (G:Gh) (h:kP) (w:World):Ext G h w G h w.drew :=
 ⟨rfl,rfl,rfl,ac5 _,fun _ _ _=>⟨rfl,fun _=>rfl⟩,fun _ _ _ h=>h,fun _ _ h _=>h,fun id bl hb=>⟨bl,hb,Kind.refl G id bl⟩⟩
section
variable {P:Program}{G:Gh}{h:kP}{w:World}{x y v:kM}{X Y V:Value}
structure Src (G:Gh) (h:kP) (w:World) (sz:Nat) (rows:List (List kM)) (X:Value) (a:Option Addr) (news:List Value):Prop where
 form:∃cap,X=.slice a rows.length cap
 len:news.length=rows.length * sz
 rlen:∀r∈rows,r.length=sz
 at_:∀(j:Nat) u,news[j]?=some u→∃ad,a=some ad∧w.cell? (ad.add j)=some u
 rel:∀(i j:Nat) (row:List kM) (c:kM),rows[i]?=some row→row[j]?=some c→∃u,news[i * sz+j]?=some u∧rC G.H c u∧c.mD=true
theorem Ae {sz : Nat} {rows : List (List kM)} (i : Inv G h w) (hb : pY sz h x = some rows) (hx : lM G h x X) : ∃ a news, Src G h w sz rows X a news := by
  unfold pY at hb
  split at hb
  · rename_i rows' tok
    split at hb
    case isFalse => cases hb
    rename_i hall
    simp only [ab0] at hb; subst hb
    have hrl : ∀ r ∈ rows', r.length = sz := fun r hr => by simpa using ah1.1 hall r hr
    have hp := hx.wD
    cases hp with
    | slice0 a cap => exact ⟨a, [], ⟨cap, rfl⟩, by simp, by simp, by simp, by simp⟩
    | slice rows b off cap sz' F hr hc hH hk hV =>
      have hszz : 0 < rows'.length → sz' = sz := fun h0 => by
        have hm : rows'[0]? = some rows'[0] := ac0 h0
        rw [← hr _ (af1 hm), hrl _ (af1 hm)]
      refine ⟨some ⟨b, off, none⟩, (List.range (rows'.length * sz)).map F, ⟨cap, rfl⟩, by simp, hrl, ?_, ?_⟩
      · intro j u hu
        have hj : j < rows'.length * sz := by simpa using (ab1.1 hu).1
        have hpos : 0 < sz := by rcases Nat.eq_zero_or_pos sz with h0 | h0; · rw [h0] at hj; omega
                                 · exact h0
        have hrow : j / sz < rows'.length := (Nat.div_lt_iff_lt_mul hpos).2 hj
        have h1 : rows'[j / sz]? = some rows'[j / sz] := ac0 hrow
        have hl := hrl _ (af1 h1)
        have h2 : rows'[j / sz][j % sz]? = some (rows'[j / sz][j % sz]'(by rw [hl]; exact Nat.mod_lt _ hpos)) := ac0 _
        have hs' := hszz (Nat.lt_of_le_of_lt (ah9 _) hrow)
        subst hs'
        have h3 := hH _ _ _ _ h1 h2
        rw [show j / sz' * sz' + j % sz' = j by rw [Nat.mul_comm]; exact Nat.div_add_mod j sz'] at h3
        refine ⟨_, rfl, ?_⟩
        rw [add_plain, i.ok _ _ _ h3]
        simp [hj] at hu
        rw [hu]
      · intro i' j row c h1 h2
        have hl := hrl _ (af1 h1)
        have hi' : i' < rows'.length := (ab1.1 h1).1
        have hj' : j < sz := by rw [← hl]; exact (ab1.1 h2).1
        have hs' := hszz (by omega)
        subst hs'
        refine ⟨F (i' * sz' + j), ?_, hV _ _ _ _ h1 h2, hk _ _ _ _ h1 h2⟩
        have : i' * sz' + j < rows'.length * sz' := by
          calc i' * sz' + j < i' * sz' + sz' := by omega
            _ = (i' + 1) * sz' := by rw [al4]; omega
            _ ≤ rows'.length * sz' := aj0 _ hi'
        simp [this]
  · rename_i id off len sz'
    cases hgb : mY h id with
    | none => simp [hgb] at hb
    | some cs =>
      have hid := Ku hgb
      simp only [hgb] at hb
      split at hb
      case isFalse => cases hb
      rename_i hcond
      obtain ⟨rfl, hle⟩ := hcond
      split at hb <;> simp only [ab0, reduceCtorEq] at hb
      rename_i row hrow
      subst hb
      obtain ⟨a, cap, rfl, hlc, ha⟩ := hx.AS
      obtain ⟨C, e, h1, h2, h3, h4⟩ := i.oP id _ hid
      obtain ⟨p1, p2⟩ := tJ hrow
      have hdl : ((cs.drop off).take (len * sz')).length = len * sz' := by rw [ak8, al3]; omega
      rw [hdl] at p1
      obtain ⟨q1, q2, q3⟩ := uN len sz' row (by omega)
      refine ⟨a, (C.toList.drop off).take (len * sz'), ⟨cap, by rw [q1]⟩, by rw [q1, ak8, al3, ak1]; omega, q2, ?_, ?_⟩
      · intro j u hu
        rw [ah3] at hu
        split at hu
        · rename_i hj
          have hpos : 0 < len := by rcases Nat.eq_zero_or_pos len with h0 | h0; · rw [h0] at hj; omega
                                    · exact h0
          obtain ⟨rfl, _⟩ := ha hpos
          refine ⟨_, rfl, ?_⟩
          rw [add_plain, cell_of w _ _ h1]
          rw [ah5, ad3] at hu
          exact hu
        · cases hu
      · intro i' j r c hi hj
        have hrow' := q3 i' j r c hi hj
        have hlt : i' * sz' + j < len * sz' := by
          have := (ab1.1 hrow').1; omega
        have hget : ∃ c0, ((cs.drop off).take (len * sz'))[i' * sz' + j]? = some c0 := ⟨_, ac0 (by omega)⟩
        obtain ⟨c0, hc0⟩ := hget
        obtain ⟨c', e1, e2⟩ := p2 _ c0 hc0
        rw [hrow'] at e1; cases e1
        have hc1 : cs[off + (i' * sz' + j)]? = some c0 := by
          rw [ah3, if_pos hlt, ah5] at hc0; exact hc0
        obtain ⟨_, hrel⟩ := h4 _ c0 hc1
        obtain ⟨z1, z2⟩ := zV e2 hrel
        have hCl : off + (i' * sz' + j) < C.size := by rw [h2]; exact (ab1.1 hc1).1
        refine ⟨C.getD (off + (i' * sz' + j)) undef, ?_, z1, z2⟩
        rw [ah3, if_pos hlt, ah5, ad3, Array.getElem?_eq_getElem hCl]
        simp [ab2, hCl]
  · rename_i id tot off len sz'
    cases hgb : qC h id tot with
    | none => simp [hgb] at hb
    | some x0 =>
      have hid := vA hgb
      simp only [hgb] at hb
      split at hb
      case isFalse => cases hb
      rename_i hcond
      obtain ⟨rfl, hle⟩ := hcond
      split at hb <;> simp only [ab0, reduceCtorEq] at hb
      rename_i row hrow
      subst hb
      obtain ⟨b, cap, rfl, hnf, htot, hlc, hv⟩ := hx.tI
      obtain ⟨b', cap', C, e, g1, g2, g3, g4, g5, g6, g7, g8, g9⟩ := i.oP id _ hid
      obtain ⟨l0, cap0, k1, _⟩ := hv (by rw [g1]; rfl)
      rw [g1] at k1
      simp only [Value.slice.injEq, ab0, Addr.mk.injEq] at k1
      obtain ⟨⟨rfl, _⟩, _, rfl⟩ := k1
      have hcl : x0.2.length ≤ C.size := by rw [g7, g5]; exact aj0 _ g3
      obtain ⟨p1, p2⟩ := tJ hrow
      have hdl : ((x0.2.drop off).take (len * sz')).length = len * sz' := by rw [ak8, al3]; omega
      rw [hdl] at p1
      obtain ⟨q1, q2, q3⟩ := uN len sz' row (by omega)
      refine ⟨some ⟨b', off, none⟩, (C.toList.drop off).take (len * sz'), ⟨cap, by rw [q1]⟩, by rw [q1, ak8, al3, ak1]; omega, q2, ?_, ?_⟩
      · intro j u hu
        rw [ah3] at hu
        split at hu
        · refine ⟨_, rfl, ?_⟩
          rw [add_plain, cell_of w _ _ g2]
          rw [ah5, ad3] at hu
          exact hu
        · cases hu
      · intro i' j r c hi hj
        have hrow' := q3 i' j r c hi hj
        have hlt : i' * sz' + j < len * sz' := by
          have := (ab1.1 hrow').1; omega
        have hget : ∃ c0, ((x0.2.drop off).take (len * sz'))[i' * sz' + j]? = some c0 := ⟨_, ac0 (by omega)⟩
        obtain ⟨c0, hc0⟩ := hget
        obtain ⟨c', e1, e2⟩ := p2 _ c0 hc0
        rw [hrow'] at e1; cases e1
        have hc1 : x0.2[off + (i' * sz' + j)]? = some c0 := by
          rw [ah3, if_pos hlt, ah5] at hc0; exact hc0
        obtain ⟨_, hrel⟩ := g9 _ c0 hc1
        obtain ⟨z1, z2⟩ := zV e2 hrel
        have hCl : off + (i' * sz' + j) < C.size := by have := (ab1.1 hc1).1; omega
        refine ⟨C.getD (off + (i' * sz' + j)) undef, ?_, z1, z2⟩
        rw [ah3, if_pos hlt, ah5, ad3, Array.getElem?_eq_getElem hCl]
        simp [ab2, hCl]
  · cases hb
theorem Src.one {sz : Nat} {rows : List (List kM)} {a : Option Addr} {news : List Value} (s : Src G h w sz rows X a news) : ∀ u ∈ news, u.oneCell' = true := by
  intro u hu
  obtain ⟨j, hj⟩ := List.getElem?_of_mem hu
  have hjl : j < rows.length * sz := by rw [← s.len]; exact (ab1.1 hj).1
  have hpos : 0 < sz := by rcases Nat.eq_zero_or_pos sz with h0 | h0; · rw [h0] at hjl; omega
                           · exact h0
  have hrow : j / sz < rows.length := (Nat.div_lt_iff_lt_mul hpos).2 hjl
  have h1 : rows[j / sz]? = some rows[j / sz] := ac0 hrow
  have hl := s.rlen _ (af1 h1)
  have h2 : rows[j / sz][j % sz]? = some (rows[j / sz][j % sz]'(by rw [hl]; exact Nat.mod_lt _ hpos)) := ac0 _
  obtain ⟨u', e1, e2, e3⟩ := s.rel _ _ _ _ h1 h2
  rw [show j / sz * sz + j % sz = j by rw [Nat.mul_comm]; exact Nat.div_add_mod j sz] at e1
  rw [hj] at e1; cases e1
  exact (e2.C7 e3).1
theorem Em {H:Nat→Nat→Option Value}{rows:List (List kM)}{sz b cap:Nat}{all:List Value}(hr:∀r∈rows,r.length=sz) (hc:rows.length≤cap)
  (hH:∀(k:Nat) u,all[k]?=some u→H b k=some u)
  (hrel:∀(i j:Nat) (row:List kM) (c:kM),rows[i]?=some row→row[j]?=some c→∃u,all[i * sz+j]?=some u∧rC H c u∧c.mD=true) :
  rC H (.slice rows .no) (.slice (some ⟨b,0,none⟩) rows.length cap):=by
 refine .slice rows b 0 cap sz (fun k=>all.getD k undef) hr hc ?_ ?_ ?_
 ·intro i j row c h1 h2
  obtain⟨u,e1,_⟩:=hrel i j row c h1 h2
  rw [al6,hH _ u e1,af6,e1]; rfl
 ·intro i j row c h1 h2; obtain⟨u,_,_,e3⟩:=hrel i j row c h1 h2; exact e3
 ·intro i j row c h1 h2
  obtain⟨u,e1,e2,_⟩:=hrel i j row c h1 h2
  rw [af6,e1]; exact e2
theorem N9 {H:Nat→Nat→Option Value}{A B:List (List kM)}{sz:Nat}{xs ys:List Value}(hxl:xs.length=A.length * sz) (hA:∀r∈A,r.length=sz)
  (h1:∀(i j:Nat) (row:List kM) (c:kM),A[i]?=some row→row[j]?=some c→∃u,xs[i * sz+j]?=some u∧rC H c u∧c.mD=true)
  (h2:∀(i j:Nat) (row:List kM) (c:kM),B[i]?=some row→row[j]?=some c→∃u,ys[i * sz+j]?=some u∧rC H c u∧c.mD=true) :
  ∀(i j:Nat) (row:List kM) (c:kM),(A++B)[i]?=some row→row[j]?=some c→∃u,(xs++ys)[i * sz+j]?=some u∧rC H c u∧c.mD=true:=by
 intro i j row c hi hj
 by_cases hlt:i < A.length
 ·rw [af7 hlt] at hi
  obtain⟨u,e1,e2⟩:=h1 i j row c hi hj
  exact⟨u,by rw [af7 (ab1.1 e1).1]; exact e1,e2⟩
 ·rw [ac9 (by omega)] at hi
  obtain⟨u,e1,e2⟩:=h2 _ j row c hi hj
  refine⟨u,?_,e2⟩
  have:A.length * sz≤i * sz:=aj0 _ (by omega)
  rw [ac9 (by omega),hxl,←e1]
  congr 1
  rw [Nat.sub_mul]; omega
theorem Inv.grow (i:Inv G h w) {id n n' sz sz' t t' bb cap':Nat}{all:List Value}{C':Array Value}{e':TypeId}{w':World}(hid:h[id]?=some (.front n sz t)) (hnn:n < n') (hsz:0 < n→sz'=sz)
  (os:w'.os=w.os) (tape:w'.tape=w.tape) (output:w'.output=w.output) (size:w.heap.size≤w'.heap.size)
  (heap:∀k,k < w.heap.size→(k=bb→(G.cur id).ownBlock≠some k)→(k=bb→False)→w'.heap[k]?=w.heap[k]?)
  (hbb:(w.heap.size≤bb)∨(G.cur id).ownBlock=some bb)
  (hC:w'.heap[bb]?=some (.cells C' e' (0,0))) (hcap:n'≤cap') (hmax:cap'≤maxLen) (hCs:C'.size=cap' * sz')
  (hsz0:0 < sz') (hall:all.length=n' * sz') (hC':∀(k:Nat) u,all[k]?=some u→C'[k]?=some u)
  (hold:∀k v,G.H bb k=some v→all[k]?=some v) (htt:t'≠0→e'+1=t') :
  ∃G',Inv G' (h.set id (.front n' sz' t')) w'∧Ext G h w G' (h.set id (.front n' sz' t')) w'∧(∀b k v,G.H b k=some v→G'.H b k=some v) ∧
   (∀(k:Nat) u,all[k]?=some u→G'.H bb k=some u)∧G'.cur id=.slice (some ⟨bb,0,none⟩) n' cap':=by
 let G':Gh:={ G with H:=fun b k=>if b=bb then all[k]? else G.H b k,cur:=fun j=>if j=id then .slice (some ⟨bb,0,none⟩) n' cap' else G.cur j }
 have hmono:∀b k v,G.H b k=some v→G'.H b k=some v:=by
  intro b k v hv
  show(if b=bb then all[k]? else G.H b k)=some v
  by_cases hb:b=bb
  ·subst hb; rw [if_pos rfl]; exact hold k v hv
  ·rw [if_neg hb]; exact hv
 have key:=i.step (G':=G') id (.front n sz t) (.front n' sz' t') hid os tape output size
  (fun k hk hne=>heap k hk (fun _=>hne) (fun e=>by
   subst e
   rcases hbb with h1 | h1
   ·omega
   ·exact hne h1))
  (fun j hj=>rfl) (fun j hj=>if_neg hj) hmono
  (fun b k hb hne=>by
   have:b≠bb:=by
    rintro rfl
    rcases hbb with h1 | h1
    ·omega
    ·exact hne h1
   show(if b=bb then all[k]? else G.H b k)=_
   rw [if_neg this])
  (fun b k v hb hv=>by
   change (if b=bb then all[k]? else G.H b k)=some v at hv
   by_cases hbe:b=bb
   ·subst hbe
    rw [if_pos rfl] at hv
    rw [cell_of w' _ _ hC]; exact hC' k v hv
   ·rw [if_neg hbe] at hv
    have hlt:=i.CG hv
    rw [World.cell?_of_block (w:=w) (a:=⟨b,k,none⟩) (heap b hlt (fun e=>absurd e hbe) hbe)]
    exact i.ok b k v hv)
  ⟨by omega,fun e=>by omega,rfl,hsz⟩
  (fun _=>.inr ⟨bb,cap',C',e',if_pos rfl,hC,hcap,hmax,hCs,hsz0,fun k hk=>by
   show(if bb=bb then all[k]? else G.H bb k)=none
   rw [if_pos rfl]; exact List.getElem?_eq_none (by omega),htt⟩)
  (fun b hb=>by
   have hb:Value.ownBlock (if id=id then .slice (some ⟨bb,0,none⟩) n' cap' else G.cur id)=some b:=hb
   rw [if_pos rfl] at hb
   simp only [Value.ownBlock,ab0] at hb
   subst hb
   exact hbb)
 exact⟨G',key.1,key.2,hmono,fun k u hu=>by show(if bb=bb then all[k]? else G.H bb k)=some u; rw [if_pos rfl]; exact hu,if_pos rfl⟩
end
end
section
open Go Go.RowKit
section
variable {P:Program}{G:Gh}{h:kP}{w:World}{x y v:kM}{X Y V:Value}
theorem FT (i:Inv G h w) {rows:List (List kM)}{id n sz:Nat}(hx:lM G h (.slice rows (.own id)) X) {t:Nat}(hid:h[id]?=some (.front n sz t)) (hlen:rows.length=n) :
  X=G.cur id∧(∀r∈rows,r.length=sz)∧((n=0∧G.cur id=.slice none 0 0)∨∃b cap C e,G.cur id=.slice (some ⟨b,0,none⟩) n cap∧w.heap[b]?=some (.cells C e (0,0)) ∧
   n≤cap∧cap≤maxLen∧C.size=cap * sz∧0 < sz∧(∀k,n * sz≤k→G.H b k=none) ∧
   (∀(i' j:Nat) (row:List kM) (c:kM),rows[i']?=some row→row[j]?=some c→∃u,(C.toList.take (n * sz))[i' * sz+j]?=some u∧rC G.H c u∧c.mD=true)∧(t≠0→e+1=t)):=by
 cases hx with
 | p _ _ hp=>cases hp
 | ownv _ _ hp hb =>
  obtain⟨b,h1,_,h3⟩:=hb
  rw [hid] at h1; cases h1; exact absurd rfl (h3 _ _ _)
 | own _ _ n' sz' _ hp hf hn hr hc =>
  rw [hid] at hf
  simp only [ab0,lE.front.injEq] at hf
  obtain⟨rfl,rfl,rfl⟩:=hf
  have hX:=hc hlen
  refine⟨hX,hr,?_⟩
  rcases i.oP id _ hid with h1 | ⟨b,cap,C,e,h1,h2,h3,h4,h5,h50,h6,h7⟩
  ·exact .inl h1
  ·refine .inr ⟨b,cap,C,e,h1,h2,h3,h4,h5,h50,h6,fun i' j row c hi hj=>?_,h7⟩
   rw [hX,h1] at hp
   generalize hV:Value.slice (some ⟨b,0,none⟩) n cap=V0 at hp
   cases hp with
   | slice0 a cap=>simp at hi
   | slice rows b' off cap' sz2 F hr2 hc2 hH hk hV2 =>
    simp only [Value.slice.injEq,ab0,Addr.mk.injEq] at hV
    obtain⟨⟨rfl,rfl,_⟩,hn',rfl⟩:=hV
    have hs:sz2=sz:=by rw [←hr2 row (af1 hi),hr row (af1 hi)]
    subst hs
    have hcell:=i.ok _ _ _ (hH i' j row c hi hj)
    rw [cell_of w _ _ h2,al6] at hcell
    have hlt:i' * sz2+j < n * sz2:=by
     have hi':i' < rows.length:=(ab1.1 hi).1
     have hj':j < sz2:=by rw [←hr2 row (af1 hi)]; exact(ab1.1 hj).1
     calc i' * sz2+j < i' * sz2+sz2:=by omega
      _=(i'+1) * sz2:=by rw [al4]; omega
      _≤n * sz2:=aj0 _ (by omega)
    refine⟨F (i' * sz2+j),?_,hV2 i' j row c hi hj,hk i' j row c hi hj⟩
    rw [ah3,if_pos hlt,ad3]
    exact hcell
theorem u9 {t ty e:TypeId}{ti:TypeInfo}(ht:P.underlying t=some (.slice e)) (hi:P.info? e=some ti) (a b:Option Addr) (n cap c:Nat) (hn:n≤cap) :
  (Builtin.append_ #[t,t] ty #[.slice a n cap,.slice b 0 c]).run P w=.ok (.slice a n cap) w:=by
 cases a <;> cases b <;> simp [Builtin.append_,run_underlying ht,Go.sizeOf,Go.typeInfo,hi,Builtin.lenOf,Builtin.firstCells,hn,loadCells,loadCellsFrom,storeCells,Sem.run_pure]
theorem Inv.Ek (i:Inv G h w):∃G',Inv G' (h++[.front 0 0]) w∧Ext G h w G' (h++[.front 0 0]) w∧G'.cur h.length=.slice none 0 0∧G'.H=G.H:=by
 let G':Gh:={ G with cur:=fun j=>if j=h.length then .slice none 0 0 else G.cur j }
 have key:=i.push (G':=G') (ext:=[.front 0 0]) (w':=w) rfl rfl rfl (ac5 _) (fun _ _=>rfl) (fun _ _=>rfl) (fun id hid=>if_neg (by omega)) (fun _ _ _ h=>h) (fun _ _ _=>rfl)
  (fun b k v hb hv=>by have:=i.CG (b:=b) (k:=k) (v:=v) hv; omega)
  (fun j bl hj m=>by
   cases j with
   | zero=>simp at hj; subst hj; exact .inl ⟨rfl,if_pos rfl⟩
   | succ j=>simp at hj)
  (fun j bl b hj ho=>by
   cases j with
   | zero =>
    simp at hj; subst hj
    have ho:Value.ownBlock (if h.length+0=h.length then .slice none 0 0 else G.cur (h.length+0))=some b:=ho
    rw [if_pos (al5 _)] at ho; cases ho
   | succ j=>simp at hj)
  (fun j j' bl bl' b hj hj' _ _=>by
   have h1:j < 1:=by simpa using (ab1.1 hj).1
   have h2:j' < 1:=by simpa using (ab1.1 hj').1
   omega)
 exact⟨G',key.1,key.2,if_pos rfl,rfl⟩
theorem Va {G':Gh}(hc:G'.cur h.length=.slice none 0 0):lM G' (h++[.front 0 0]) (.slice [] (.own h.length)) (.slice none 0 0) :=
 .own (t:=0) [] h.length 0 0 _ (.slice0 none 0) (by simp) (ac5 _) (by simp) (fun _=>hc.symm)
theorem O7 {t ty e:TypeId}{sz bytes:Nat}{z r:kM}{h':kP}(i:Inv G h w) (ht:P.underlying t=some (.slice e)) (hn:oU P e=some sz) (hby:zA P e=some bytes)
  (hz:tA P e=some z) (hzj:z.pL=false) (hzl:z.cells.length=sz) (hsz:sz≠0) (hb:mG sz bytes h x y=some (r,h')) (hx:lM G h x X) (hy:lM G h y Y) :
  ∃V w' G',(Builtin.append_ #[t,t] ty #[X,Y]).run P w=.ok V w'∧Inv G' h' w'∧Ext G h w G' h' w'∧lM G' h' r V:=by
 obtain⟨ti,hti,hts,htb,Z,hzz,hZs⟩:∃ti,P.info? e=some ti∧ti.size=sz∧ti.bytes=bytes∧∃Z,ti.zero=some Z∧Z.cells.size=sz:=by
  unfold oU at hn; unfold zA at hby; unfold tA at hz
  cases hi:P.info? e with
  | none=>simp [hi] at hn
  | some ti =>
   simp [hi] at hn hby hz
   obtain⟨Z,hZ1,hZ2⟩:=hz
   refine⟨ti,rfl,hn,hby,Z,hZ1,?_⟩
   subst hZ2
   rw [←hzl]; exact(xF hzj (wW G h Z)).1.symm
 unfold mG at hb
 split at hb
 ·-- the holder of a token
  rename_i rows id new hnew
  obtain⟨a,news,src⟩:=Ae i hnew hy
  obtain⟨capY,hYf⟩:=src.form
  split at hb
  ·rename_i n sz0 hid
   split at hb
   case isFalse=>cases hb
   rename_i hcond
   obtain⟨hlen,hszz,hbytes,hsmall⟩:=hcond
   obtain⟨hX,hrl,hcur⟩:=FT i hx hid hlen
   split at hb
   ·rename_i hm
    simp only [ab0,af8] at hb
    obtain⟨rfl,rfl⟩:=hb
    refine⟨X,w,G,?_,i,Ext.refl G h w,hx⟩
    rw [hYf,hm]
    rcases hcur with ⟨_,hc⟩ | ⟨b,cap,C,e0,hc,_,hle,_⟩
    ·rw [hX,hc]; exact u9 ht hti none a 0 0 capY (ac5 _)
    ·rw [hX,hc]; exact u9 ht hti _ a n cap capY hle
   ·rename_i hm
    simp only [ab0,af8] at hb
    obtain⟨rfl,rfl⟩:=hb
    have hposn:0 < news.length:=by rw [src.len]; exact Nat.mul_pos (by omega) (by omega)
    obtain⟨ad,had,_⟩:=src.at_ 0 _ (ac0 hposn)
    subst had
    have hnews:∀j u,news[j]?=some u→w.cell? (ad.add j)=some u:=fun j u hu=>by
     obtain⟨ad',e1,e2⟩:=src.at_ j u hu; cases e1; exact e2
    have hone:=src.one
    have hnl:news.length=new.length * ti.size:=by rw [hts]; exact src.len
    have fin:∀(bb cap':Nat) (xs:List Value) (G':Gh),xs.length=n * sz→cap'≥n+new.length→EG G h G' (h.set id (.front (n+new.length) sz)) →
      (∀(k:Nat) u,(xs++news)[k]?=some u→G'.H bb k=some u)→G'.cur id=.slice (some ⟨bb,0,none⟩) (n+new.length) cap' →
      (∀(i' j:Nat) (row:List kM) (c:kM),rows[i']?=some row→row[j]?=some c→∃u,xs[i' * sz+j]?=some u∧rC G.H c u∧c.mD=true) →
      (∀r∈rows,r.length=sz) →
      lM G' (h.set id (.front (n+new.length) sz)) (.slice (rows++new) (.own id)) (.slice (some ⟨bb,0,none⟩) (n+new.length) cap'):=by
     intro bb cap' xs G' hxl hc hm' hH hcur' hcells hrl'
     have hidl:id < h.length:=(ab1.1 hid).1
     have hrl2:∀r∈rows++new,r.length=sz:=fun r hr=>(List.mem_append.1 hr).elim (hrl' r) (src.rlen r)
     have hlen2:(rows++new).length=n+new.length:=by rw [ac2,hlen]
     refine .own (t:=0) _ id (n+new.length) sz _ ?_ (by simp [hidl]) (by omega) hrl2 (fun _=>hcur'.symm)
     have:=Em (H:=G'.H) (rows:=rows++new) (sz:=sz) (b:=bb) (cap:=cap') (all:=xs++news) hrl2 (by omega) hH
      (N9 (by rw [hlen]; exact hxl) hrl' (fun i' j row c h1 h2=>by obtain⟨u,e1,e2,e3⟩:=hcells i' j row c h1 h2; exact⟨u,e1,e2.mono hm'.hmono,e3⟩)
       (fun i' j row c h1 h2=>by obtain⟨u,e1,e2,e3⟩:=src.rel i' j row c h1 h2; exact⟨u,e1,e2.mono hm'.hmono,e3⟩))
     rwa [hlen2] at this
    rw [hX,hYf]
    rcases hcur with ⟨rfl,hc⟩ | ⟨b,cap,C,e0,hc,hC,hle,hmx,hCs,hs0,hHn,hcells,_⟩
    ·-- nil so far
     rw [hc]
     have hrun:=run_append_nil (P:=P) w t ty e ti Z ht hti hzz ad new.length capY news hnl hnews (by omega) (by omega) (by rw [htb]; rw [al6] at hbytes; omega)
     have hcapg:=grownCap_ge w new.length 0 e
     have hcapm:=grownCap_le_maxLen w new.length 0 e (by simp only [maxLen]; omega)
     obtain⟨G',g1,g2,g3,g4,g5⟩:=i.grow (id:=id) (n:=0) (n':=0+new.length) (t':=0) (sz:=sz0) (sz':=sz) (bb:=w.heap.size) (cap':=grownCap w new.length 0 e) (all:=news)
      (w':=w.drew.alloc (.cells (news.toArray++Builtin.zeroCells Z.cells (grownCap w new.length 0 e - new.length)) e)) hid (by omega) (by omega) rfl rfl rfl (by simp)
      (fun k hk _ _=>n9 w.drew _ k hk) (.inl (ac5 _)) (heap_alloc_new w.drew _) (by omega) hcapm
      (by simp only [Array.size_append,List.size_toArray,size_zeroCells,hZs,src.len,←al4]; congr 1; omega)
      (by omega) (by rw [src.len]; simp) (fun k u hu=>by
       rw [Array.getElem?_append_left (by simpa using (ab1.1 hu).1)]; simpa using hu)
      (fun k v hv=>by have:=i.CG hv; omega) (fun h=>absurd rfl h)
     refine⟨_,_,G',hrun,g1,g2,?_⟩
     have:=fin w.heap.size (grownCap w new.length 0 e) [] G' (by simp) (by omega) g2.toMono (by simpa using g4) g5 (fun i' j row c h1 _=>by
      have:rows=[]:=List.eq_nil_of_length_eq_zero hlen
      subst this; simp at h1) (fun r hr=>by
      have:rows=[]:=List.eq_nil_of_length_eq_zero hlen
      subst this; cases hr)
     simpa using this
    ·have hs:sz0=sz:=by omega
     rw [hc]
     by_cases hroom:n+new.length≤cap
     ·subst hs
      have hfit:n * ti.size+news.length≤C.size:=by rw [hts,src.len,hCs,←al4]; exact aj0 _ hroom
      have hf:=run_firstCells_some (P:=P) w ti.size new.length ad new.length capY news hnl hnews
      have hst:=run_storeCells_at P b (n * ti.size) e0 news 0 C w hC (by simpa using hfit) hone
      simp only [al5] at hst
      have hrun:(Builtin.append_ #[t,t] ty #[.slice (some ⟨b,0,none⟩) n cap,.slice (some ad) new.length capY]).run P w =
        .ok (.slice (some ⟨b,0,none⟩) (n+new.length) cap) (w.setRow b (C.toList.take (n * ti.size)++news++C.toList.drop (n * ti.size+news.length)).toArray):=by
       simp [Builtin.append_,run_underlying ht,Go.sizeOf,Go.typeInfo,hti,Builtin.lenOf,hroom,hf,Addr.add_lit,hst]
      rw [hts] at hrun hfit
      have hxl:(C.toList.take (n * sz0)).length=n * sz0:=by rw [ak8,ak1]; omega
      obtain⟨G',g1,g2,g3,g4,g5⟩:=i.grow (id:=id) (n:=n) (n':=n+new.length) (t':=0) (sz:=sz0) (sz':=sz0) (bb:=b) (cap':=cap) (all:=C.toList.take (n * sz0)++news)
       (C':=(C.toList.take (n * sz0)++news++C.toList.drop (n * sz0+news.length)).toArray) (e':=e0)
       (w':=w.setRow b (C.toList.take (n * sz0)++news++C.toList.drop (n * sz0+news.length)).toArray) hid (by omega) (fun _=>rfl) (by simp) (by simp) (by simp) (by simp)
       (fun k hk _ hne=>setRow_other w b k _ hne) (.inr (by rw [hc]; rfl)) (setRow_heap w b C _ e0 _ hC) hroom hmx
       (by simp; omega) hs0
       (by rw [ac2,hxl,src.len,al4]) (fun k u hu=>by
        rw [List.getElem?_toArray,af7 (ab1.1 hu).1]; exact hu)
       (fun k v hv=>by
        have hk:k < n * sz0:=Classical.byContradiction fun hk=>by rw [hHn k (by omega)] at hv; cases hv
        have:=i.ok _ _ _ hv
        rw [cell_of w _ _ hC] at this
        rw [af7 (by omega),ah3,if_pos hk,ad3]; exact this) (fun h=>absurd rfl h)
      exact⟨_,_,G',hrun,g1,g2,fin b cap _ G' hxl hroom g2.toMono g4 g5 hcells hrl⟩
     ·subst hs
      have hxl:(C.toList.take (n * sz0)).length=n * sz0:=by
       rw [ak8,ak1,hCs]
       have:n * sz0≤cap * sz0:=aj0 _ hle
       omega
      have hxc:∀j u,(C.toList.take (n * sz0))[j]?=some u→w.cell? ((⟨b,0,none⟩:Addr).add j)=some u:=by
       intro j u hu
       rw [ah3] at hu
       split at hu
       ·rw [add_plain,cell_of w _ _ hC,al6]; rwa [ad3] at hu
       ·cases hu
      have hrun:=run_append_grow (P:=P) w t ty e ti Z ht hti hzz ⟨b,0,none⟩ n cap (C.toList.take (n * sz0)) (by rw [hts]; exact hxl) hxc ad new.length capY news hnl hnews (by omega) (by omega)
       (growslice_fits (by omega) (by rw [htb]; exact hbytes))
      have hcapg:=grownCap_ge w (n+new.length) cap e
      have hcapm:=grownCap_le_maxLen w (n+new.length) cap e (by simp only [maxLen]; omega)
      obtain⟨G',g1,g2,g3,g4,g5⟩:=i.grow (id:=id) (n:=n) (n':=n+new.length) (t':=0) (sz:=sz0) (sz':=sz0) (bb:=w.heap.size) (cap':=grownCap w (n+new.length) cap e) (all:=C.toList.take (n * sz0)++news)
       (w':=w.drew.alloc (.cells ((C.toList.take (n * sz0)).toArray++news.toArray++Builtin.zeroCells Z.cells (grownCap w (n+new.length) cap e - (n+new.length))) e)) hid (by omega)
       (fun _=>rfl) rfl rfl rfl (by simp)
       (fun k hk _ _=>n9 w.drew _ k hk) (.inl (ac5 _)) (heap_alloc_new w.drew _) (by omega) hcapm
       (by simp only [Array.size_append,List.size_toArray,size_zeroCells,hZs,src.len,hxl,←al4]; congr 1; omega)
       (by omega) (by rw [ac2,hxl,src.len,al4]) (fun k u hu=>by
        have hk:=(ab1.1 hu).1
        rw [Array.getElem?_append_left (by simpa using hk),List.append_toArray,List.getElem?_toArray]; exact hu)
       (fun k v hv=>by have:=i.CG hv; omega) (fun h=>absurd rfl h)
      exact⟨_,_,G',hrun,g1,g2,fin w.heap.size _ _ G' hxl (by omega) g2.toMono g4 g5 hcells hrl⟩
  ·cases hb
 ·-- a nil slice without a token
  rename_i new hnew
  obtain⟨a,news,src⟩:=Ae i hnew hy
  obtain⟨capY,hYf⟩:=src.form
  have hX:=hx.FO
  split at hb
  ·rename_i hm
   simp only [ab0,af8] at hb
   obtain⟨rfl,rfl⟩:=hb
   refine⟨X,w,G,?_,i,Ext.refl G h w,hx⟩
   rw [hYf,hm,hX]
   exact u9 ht hti none a 0 0 capY (ac5 _)
  ·rename_i hm
   split at hb
   case isFalse=>cases hb
   rename_i hcond
   obtain⟨hbytes,hsmall⟩:=hcond
   simp only [ab0,af8] at hb
   obtain⟨rfl,rfl⟩:=hb
   have hposn:0 < news.length:=by rw [src.len]; exact Nat.mul_pos (by omega) (by omega)
   obtain⟨ad,had,_⟩:=src.at_ 0 _ (ac0 hposn)
   subst had
   have hnews:∀j u,news[j]?=some u→w.cell? (ad.add j)=some u:=fun j u hu=>by
    obtain⟨ad',e1,e2⟩:=src.at_ j u hu; cases e1; exact e2
   have hnl:news.length=new.length * ti.size:=by rw [hts]; exact src.len
   obtain⟨G1,i1,x1,hc1,hH1⟩:=i.Ek
   rw [hX,hYf]
   have hrun:=run_append_nil (P:=P) w t ty e ti Z ht hti hzz ad new.length capY news hnl hnews (by omega) (by omega) (by rw [htb]; omega)
   have hcapg:=grownCap_ge w new.length 0 e
   have hcapm:=grownCap_le_maxLen w new.length 0 e (by simp only [maxLen]; omega)
   obtain⟨G',g1,g2,g3,g4,g5⟩:=i1.grow (id:=h.length) (n:=0) (n':=new.length) (t:=0) (t':=0) (sz:=0) (sz':=sz) (bb:=w.heap.size) (cap':=grownCap w new.length 0 e) (all:=news)
    (w':=w.drew.alloc (.cells (news.toArray++Builtin.zeroCells Z.cells (grownCap w new.length 0 e - new.length)) e)) (by simp) (by omega) (by omega) rfl rfl rfl (by simp)
    (fun k hk _ _=>n9 w.drew _ k hk) (.inl (ac5 _)) (heap_alloc_new w.drew _) (by omega) hcapm
    (by simp only [Array.size_append,List.size_toArray,size_zeroCells,hZs,src.len,←al4]; congr 1; omega)
    (by omega) src.len (fun k u hu=>by
     rw [Array.getElem?_append_left (by simpa using (ab1.1 hu).1)]; simpa using hu)
    (fun k v hv=>by have:=i1.CG hv; omega) (fun h=>absurd rfl h)
   have hset:(h++[lE.front 0 0]).set h.length (.front new.length sz)=h++[.front new.length sz]:=by simp
   rw [hset] at g1 g2
   refine⟨_,_,G',hrun,g1,x1.trans g2,?_⟩
   have m:=(x1.trans g2).toMono
   refine .own (t:=0) _ h.length new.length sz _ ?_ (by simp) (ac5 _) src.rlen (fun _=>g5.symm)
   exact Em src.rlen hcapg (fun k u hu=>g4 k u hu) (fun i' j row c h1 h2=>by
    obtain⟨u,e1,e2,e3⟩:=src.rel i' j row c h1 h2; exact⟨u,e1,e2.mono m.hmono,e3⟩)
 ·cases hb
end
end
section
open Go Go.RowKit
section
variable {P:Program}{G:Gh}{h:kP}{w:World}{x y v:kM}{X Y V:Value}
theorem Inv.newAt (i:Inv G h w) {id n:Nat}{v p:kM}{h':kP}{Z:Value}(t:TypeId) (hb:vS id n h v=some (p,h')) (hr:lM G h v Z) :
  ∃G',Inv G' h' (w.alloc (.cells Z.cells t))∧Ext G h w G' h' (w.alloc (.cells Z.cells t))∧lM G' h' p (.pointer (some ⟨w.heap.size,0,none⟩))∧Z.cells.size=n:=by
 unfold vS at hb
 simp only [] at hb
 split at hb
 ·rename_i hid
  split at hb
  case isFalse=>cases hb
  rename_i hcond
  obtain⟨hlen,hall⟩:=hcond
  simp only [ab0,af8] at hb
  obtain⟨rfl,rfl⟩:=hb
  obtain⟨c1,c2⟩:=B5 hr hall
  have hidl:id < h.length:=(ab1.1 hid).1
  let G':Gh:={ G with oP:=fun j=>if j=id then w.heap.size else G.oP j }
  have key:=i.step (G':=G') (w':=w.alloc (.cells Z.cells t)) id .free (.cells v.cells) hid rfl rfl rfl (by simp) (fun k hk _=>n9 w _ k hk) (fun j hj=>if_neg hj) (fun _ _=>rfl)
   (fun _ _ _ hh=>hh) (fun _ _ _ _=>rfl) (fun b k v hb hv=>by
    rcases hb with hb | hb
    ·have:=i.CG (b:=b) (k:=k) (v:=v) hv; omega
    ·cases hb) trivial
   (fun m=>⟨Z.cells,t,by show(w.alloc _).heap[if id=id then w.heap.size else _]?=_; rw [if_pos rfl]; exact heap_alloc_new w _,by omega,
    fun k=>by show G.H (if id=id then w.heap.size else _) k=none; rw [if_pos rfl]; exact i.Gr (ac5 _),fun j u hu=>⟨(c2 j u hu).1,(c2 j u hu).2.mono m⟩⟩)
   (fun b hb=>by
    have hb:some (if id=id then w.heap.size else G.oP id)=some b:=hb
    rw [if_pos rfl] at hb; cases hb; exact .inl (ac5 _))
  refine⟨G',key.1,key.2,?_,by omega⟩
  have hp:=lM.ptr (G:=G') (h:=h.set id (.cells v.cells)) id 0 ⟨.cells v.cells,by simp [hidl],by simp⟩
  have he:G'.oP id=w.heap.size:=if_pos rfl
  rwa [he] at hp
 ·cases hb
theorem Inv.ajC (i:Inv G h w) {id len sz:Nat}{cs row:List kM}{C:Array Value}(e:TypeId) (hid:h[id]?=some .free) (hc:KZ G h cs C) (hp:n_ cs=some row) (hl:C.size=len * sz) (hmax:len≤maxLen) (hsz0:0 < sz) :
  ∃G',Inv G' (h.set id (.front len sz)) (w.alloc (.cells C e))∧Ext G h w G' (h.set id (.front len sz)) (w.alloc (.cells C e)) ∧
   lM G' (h.set id (.front len sz)) (.slice (rowsOf len sz row) (.own id)) (.slice (some ⟨w.heap.size,0,none⟩) len len):=by
 obtain⟨p1,p2⟩:=tJ hp
 obtain⟨c1,c2⟩:=hc
 have hidl:id < h.length:=(ab1.1 hid).1
 have hHlt:∀{b k v},G.H b k=some v→b≠w.heap.size:=fun hv=>by have:=i.CG hv; omega
 have hmono:∀b k v,G.H b k=some v→(G.tY id w.heap.size C (.slice (some ⟨w.heap.size,0,none⟩) len len)).H b k=some v:=by
  intro b k v hv; simp only [Gh.tY,if_neg (hHlt hv),hv]
 have key:=i.step (G':=G.tY id w.heap.size C (.slice (some ⟨w.heap.size,0,none⟩) len len)) (w':=w.alloc (.cells C e)) id .free (.front len sz) hid
  rfl rfl rfl (by simp) (fun k hk _=>n9 w _ k hk) (fun j hj=>rfl) (fun j hj=>by simp only [Gh.tY]; rw [if_neg hj]) hmono
  (fun b k hb _=>by simp only [Gh.tY]; rw [if_neg (by omega)])
  (fun b k v _ hv=>by
   by_cases hbe:b=w.heap.size
   ·subst hbe
    simp only [Gh.tY,if_true] at hv
    rw [cell_of _ _ _ (heap_alloc_new w _),hv]
   ·simp only [Gh.tY,if_neg hbe] at hv
    have hlt:=i.CG hv
    rw [World.cell?_of_block (w:=w) (a:=⟨b,k,none⟩) (n9 w _ b hlt)]
    exact i.ok b k v hv) trivial
  (fun m=>.inr ⟨w.heap.size,len,C,e,by simp [Gh.tY],heap_alloc_new w _,ac5 _,hmax,hl,hsz0,fun k hk=>by
    simp only [Gh.tY,if_true]
    exact Array.getElem?_eq_none (by omega),fun h=>absurd rfl h⟩)
  (fun b ho=>by simp only [nN,Gh.tY,if_true,Value.ownBlock,ab0] at ho; exact .inl (by omega))
 refine⟨_,key.1,key.2,?_⟩
 have hlen:(rowsOf len sz row).length=len:=(uN len sz row (by omega)).1
 refine .own (t:=0) _ id len sz _ ?_ (by simp [hidl]) (by omega) (uN len sz row (by omega)).2.1 (fun _=>by simp [Gh.tY])
 refine DO (F:=fun j=>C.getD j undef) (by omega) (ac5 _) fun j c hj hlt=>?_
 have hjl:j < C.size:=by omega
 obtain⟨c0,hc0⟩:∃c0,cs[j]?=some c0:=⟨cs[j]'(by omega),ac0 (by omega)⟩
 obtain⟨c',e1,e2⟩:=p2 j c0 hc0
 rw [hj] at e1; cases e1
 obtain⟨q1,q2⟩:=zV e2 (c2 j c0 hc0)
 refine⟨?_,q1.mono hmono,q2⟩
 simp [Gh.tY,ab2,hjl]
theorem F8 {t e:TypeId}{id len sz:Nat}{z r:kM}{h':kP}{parts:Array (Nat×Operand)}{f:Operand→kM}{F:Operand→Value}
  (i:Inv G h w) (ht:P.underlying t=some (.slice e)) (hz:tA P e=some z) (hn:oU P e=some sz) (hsz:sz≠0) (hle:len * sz≤16777216) (hf:∀o,lM G h (f o) (F o)) (hzj:z.pL=false)
  (hb:qW id len sz z.cells (parts.toList.map fun p=>(p.1,f p.2)) h=some (r,h')) :
  ∃V w' G',(Instr.buildSlice t len (parts.map fun(i,x)=>(i,F x))).run P w=.ok V w'∧Inv G' h' w'∧Ext G h w G' h' w'∧lM G' h' r V:=by
 unfold qW at hb
 split at hb
 ·rename_i rows hid hrows
  simp only [ab0,af8] at hb
  obtain⟨rfl,rfl⟩:=hb
  obtain⟨cs,row,C,h1,rfl,h3,h4,h5,h6⟩:=Ch (G:=G) (h:=h) (w:=w) ht hz hn hsz hle hf hzj hrows
  obtain⟨G',g1,g2,g3⟩:=i.ajC e hid h3 h1 h4 h5 (by omega)
  exact⟨_,_,G',h6,g1,g2,g3⟩
 ·cases hb
theorem Q_ {t:TypeId}{id n:Nat}{p:kM}{h':kP}(i:Inv G h w) (hb:vS id n h x=some (p,h')) (hx:lM G h x X) :
  ∃V w' G',(Instr.box t X).run P w=.ok V w'∧Inv G' h' w'∧Ext G h w G' h' w'∧lM G' h' p V:=by
 obtain⟨G',h1,h2,h3,_⟩:=i.newAt t hb hx
 exact⟨_,_,G',by simp [Instr.box,newVar,newRow,Sem.run_pure],h1,h2,h3⟩
theorem Mm {t:TypeId}{id n:Nat}{z p:kM}{h':kP}(i:Inv G h w) (hz:tA P t=some z) (hb:vS id n h z=some (p,h')) :
  ∃V w' G',(Instr.alloc t true (.tuple #[])).run P w=.ok V w'∧Inv G' h' w'∧Ext G h w G' h' w'∧lM G' h' p V:=by
 obtain⟨Z,hz1,hz2⟩:=sI (P:=P) (G:=G) (h:=h) (w:=w) hz
 obtain⟨G',h1,h2,h3,_⟩:=i.newAt t hb hz2
 refine⟨_,_,G',?_,h1,h2,h3⟩
 simp [Instr.alloc,hz1,newVar,newRow,Sem.run_pure]
end
end
section
open Go Go.RowKit
section
variable {P:Program}{G:Gh}{h:kP}{w:World}{x y v:kM}{X Y V:Value}
theorem Inv.ajB (i:Inv G h w) {cs:List kM}{C:Array Value}(e:TypeId) (hc:KZ G h cs C) (hk:∀u∈cs,u.mD=true) :
  ∃G',Inv G' (h++[.cells cs]) (w.alloc (.cells C e))∧Ext G h w G' (h++[.cells cs]) (w.alloc (.cells C e))∧G'.oP h.length=w.heap.size:=by
 obtain⟨c1,c2⟩:=hc
 refine⟨{ G with oP:=fun j=>if j=h.length then w.heap.size else G.oP j },?_⟩
 have key:=i.push (G':={ G with oP:=fun j=>if j=h.length then w.heap.size else G.oP j }) (ext:=[.cells cs]) (w':=w.alloc (.cells C e))
  rfl rfl rfl (by simp) (fun k hk=>n9 w _ k hk) (fun id hid=>by show(if id=h.length then _ else _)=_; rw [if_neg (by omega)]) (fun id hid=>rfl) (fun _ _ _ hh=>hh) (fun _ _ _=>rfl)
  (fun b k v hb hv=>by have:=i.CG (b:=b) (k:=k) (v:=v) hv; omega)
  (fun j bl hj m=>by
   cases j with
   | zero =>
    simp at hj; subst hj
    refine⟨C,e,by simp only [al5,if_true]; exact heap_alloc_new w _,by omega,fun k=>by simp only [al5,if_true]; exact i.Gr (ac5 _),fun j u hu=>?_⟩
    exact⟨hk u (af1 hu),(c2 j u hu).mono m⟩
   | succ j=>simp at hj)
  (fun j bl b hj ho=>by
   cases j with
   | zero=>simp at hj; subst hj; simp only [nN,al5,if_true,ab0] at ho; omega
   | succ j=>simp at hj)
  (fun j j' bl bl' b hj hj' _ _=>by
   have h1:j < 1:=by simpa using (ab1.1 hj).1
   have h2:j' < 1:=by simpa using (ab1.1 hj').1
   omega)
 exact⟨key.1,key.2,by simp⟩
theorem IW {t e:TypeId}{sz by_:Nat}{z r:kM}{h':kP}(i:Inv G h w) (ht:P.underlying t=some (.slice e)) (hn:oU P e=some sz) (hby:zA P e=some by_) (hz:tA P e=some z)
  (hj:z.pL=false) (hl:z.cells.length=sz) (hk:z.cells.all kM.mD=true) (hb:Ce sz by_ z.cells x h=some (r,h')) {k k':IntKind}{n:Int}(hxn:x=.int k n) (hX:X=.int k n) (hY:Y=.int k' n) :
  ∃V w' G',(Instr.makeSlice t X Y).run P w=.ok V w'∧Inv G' h' w'∧Ext G h w G' h' w'∧lM G' h' r V:=by
 subst hxn; subst hX; subst hY
 simp only [Ce] at hb
 split at hb
 case isFalse=>cases hb
 rename_i hcond
 obtain⟨hn0,hbytes,hmax⟩:=hcond
 simp only [ab0,af8] at hb
 obtain⟨rfl,rfl⟩:=hb
 obtain⟨m,rfl⟩:=Int.eq_ofNat_of_zero_le hn0
 simp only [Int.toNat_natCast] at *
 unfold oU at hn; unfold zA at hby; unfold tA at hz
 cases hi:P.info? e with
 | none=>simp [hi] at hn
 | some ti =>
  simp only [hi,Option.map_some,ab0,Option.bind_some,ac6] at hn hby hz
  obtain⟨Z,hZ,hz⟩:=hz
  have hrun:=run_make (P:=P) w t e ti Z ht hi hZ k k' m m hn0 (Int.le_refl _) (by
   rw [hby]
   have:((m * by_:Nat):Int)≤140737488355328:=by omega
   rw [Int.natCast_mul] at this
   rw [Int.mul_comm]; omega) (by omega)
  have hrz:lM G h z Z:=by rw [←hz]; exact wW G h Z
  have hcz:=xF hj hrz
  have hrc:=Aw (G:=G) (h:=h) hcz m
  have hmade:madeCells Z.cells ((m:Int).toNat * ti.size)=(Array.range (m * Z.cells.size)).map fun j=>Z.cells[j % Z.cells.size]! := by
   rw [hn,←hl,hcz.1]; simp [madeCells]
  rw [hmade] at hrun
  obtain⟨G',h1,h2,h3⟩:=i.ajB e hrc (fun u hu=>by
   obtain⟨l,hl1,hl2⟩:=List.mem_flatten.1 hu
   rw [(List.mem_replicate.1 hl1).2] at hl2
   exact ah1.1 hk u hl2)
  refine⟨_,_,G',hrun,h1,h2,?_⟩
  have:=lM.mslice (G:=G') (h:=h++[.cells (aj3 m z.cells).flatten]) h.length 0 m sz m ⟨.cells (aj3 m z.cells).flatten,by simp,by simp⟩ (ac5 _)
  rw [h3] at this
  simpa using this
theorem Inv.aBG (i:Inv G h w):∃G',Inv G' (h++[.map []]) (w.alloc (.map #[] 0))∧Ext G h w G' (h++[.map []]) (w.alloc (.map #[] 0))∧lM G' (h++[.map []]) (.map h.length) (.map (some w.heap.size)):=by
 refine⟨{ G with oP:=fun j=>if j=h.length then w.heap.size else G.oP j },?_⟩
 have key:=i.push (G':={ G with oP:=fun j=>if j=h.length then w.heap.size else G.oP j }) (ext:=[.map []]) (w':=w.alloc (.map #[] 0))
  rfl rfl rfl (by simp) (fun k hk=>n9 w _ k hk) (fun id hid=>by show(if id=h.length then _ else _)=_; rw [if_neg (by omega)]) (fun id hid=>rfl) (fun _ _ _ hh=>hh) (fun _ _ _=>rfl)
  (fun b k v hb hv=>by have:=i.CG (b:=b) (k:=k) (v:=v) hv; omega)
  (fun j bl hj m=>by
   cases j with
   | zero =>
    simp at hj; subst hj
    refine⟨#[],0,by simp only [al5,if_true]; exact(MapKept.heap_alloc w _).1,rfl,fun k=>by simp only [al5,if_true]; exact i.Gr (ac5 _),by simp,MapKept.stamped_empty 0⟩
   | succ j=>simp at hj)
  (fun j bl b hj ho=>by
   cases j with
   | zero=>simp at hj; subst hj; simp only [nN,al5,if_true,ab0] at ho; omega
   | succ j=>simp at hj)
  (fun j j' bl bl' b hj hj' _ _=>by
   have h1:j < 1:=by simpa using (ab1.1 hj).1
   have h2:j' < 1:=by simpa using (ab1.1 hj').1
   omega)
 refine⟨key.1,key.2,?_⟩
 have:=lM.map (G:={ G with oP:=fun j=>if j=h.length then w.heap.size else G.oP j }) (h:=h++[.map []]) h.length ⟨.map [],by simp,by simp⟩
 simpa using this
def aeO (G:Gh) (h:kP) (es:List (kM×kM)) (E:List MapEntry):Prop :=
 E.length=es.length∧∀(i:Nat) (kv:kM×kM),es[i]?=some kv→∃m,E[i]?=some m∧IU kv.1=true∧rC G.H kv.1 m.key∧lM G h kv.2 m.val
theorem Nd {H:Nat→Nat→Option Value}{d:TypeDesc}{k:kM}{K:Value}(hf:oL d k=true) (hr:rC H k K):MapKept.IsKey d K:=by
 cases d <;> cases k <;> simp [oL] at hf <;> cases hr <;> simp [MapKept.IsKey,hf]
theorem aaN {H:Nat→Nat→Option Value}{d:TypeDesc}{k k':kM}{K K':Value}{b:Bool}(hf:oL d k=true) (hr:rC H k K) (hr':rC H k' K') (he:F9 k k'=some b) :
  Instr.sameNow d K K'=some b∧(b=true→K'=K∧k'=k)∧(b=false→K'≠K):=by
 unfold F9 at he
 split at he
 ·rename_i i1 a i2 c
  split at he
  ·rename_i hii
   subst hii
   cases he
   cases hr; cases hr'
   cases d <;> simp [oL] at hf
   exact⟨by simp [Instr.sameNow],fun hb=>by simp at hb; subst hb; exact⟨rfl,rfl⟩,fun hb=>by simp at hb; simpa using fun e=>hb e.symm⟩
  ·cases he
 ·rename_i a c
  cases he
  cases hr; cases hr'
  cases d <;> simp [oL] at hf
  exact⟨by simp [Instr.sameNow],fun hb=>by simp at hb; subst hb; exact⟨rfl,rfl⟩,fun hb=>by simp at hb; simpa using fun e=>hb e.symm⟩
 ·rename_i a c
  cases he
  cases hr; cases hr'
  cases d <;> simp [oL] at hf
  have:((⟨a.toArray⟩:ByteArray) == ⟨c.toArray⟩)=(a == c):=by
   cases h:(a == c) with
   | true=>simp at h; subst h; exact(MapKept.bytes_beq _ _).2 rfl
   | false =>
    cases h2:((⟨a.toArray⟩:ByteArray) == ⟨c.toArray⟩) with
    | false=>rfl
    | true =>
     have:=(MapKept.bytes_beq _ _).1 h2
     simp at this; subst this; simp at h
  exact⟨by simp only [Instr.sameNow,this],fun hb=>by simp at hb; subst hb; exact⟨rfl,rfl⟩,fun hb=>by simp at hb; simpa using fun e=>hb e.symm⟩
 ·cases he
theorem Cc {d:TypeDesc}{k:kM}{K:Value}(hf:oL d k=true) (hr:rC G.H k K):∀(es:List (kM×kM)) (E:List MapEntry) (n:Nat) (r:Option kM),aeO G h es E→CQ k es=some r →
  (r=none∧Instr.findNow d K E n=some none∧(∀v,BJ k v es=es++[(k,v)])∧(∀x∈E,x.key≠K)∧BI k es=es) ∨
  ∃j m v0,r=some v0∧Instr.findNow d K E n=some (some (n+j,m.val))∧E[j]?=some m∧m.key=K∧es[j]?=some (k,v0)∧lM G h v0 m.val∧(∀v,BJ k v es=es.set j (k,v))∧BI k es=es.eraseIdx j
 | [],[],n,r,_,hfi=>by simp [CQ] at hfi; subst hfi; exact .inl ⟨rfl,rfl,fun v=>rfl,by simp,rfl⟩
 | [],_::_,_,_,hE,_=>by have:=hE.1; simp at this
 | _::_,[],_,_,hE,_=>by have:=hE.1; simp at this
 | (k',v')::es,m::E,n,r,hE,hfi=>by
  obtain⟨m',h1,h2,h3,h4⟩:=hE.2 0 (k',v') rfl
  simp at h1; subst h1
  simp only [CQ] at hfi
  cases ha:F9 k k' with
  | none=>rw [ha] at hfi; cases hfi
  | some b =>
   obtain⟨s1,s2,s3⟩:=aaN hf hr h3 ha
   cases b with
   | true =>
    rw [ha] at hfi; simp at hfi; subst hfi
    obtain⟨e1,e2⟩:=s2 rfl
    subst e2
    exact .inr ⟨0,m,v',rfl,by simp [Instr.findNow,s1],rfl,e1,rfl,h4,fun v=>by simp [BJ,ha],by simp [BI,ha]⟩
   | false =>
    rw [ha] at hfi; simp only [] at hfi
    have hE':aeO G h es E:=⟨by have:=hE.1; simpa using this,fun i kv hkv=>by simpa using hE.2 (i+1) kv (by simpa using hkv)⟩
    rcases Cc hf hr es E (n+1) r hE' hfi with ⟨e1,e2,e3,e4,e5⟩ | ⟨j,m',v0,e1,e2,e3,e4,e5,e6,e7,e8⟩
    ·exact .inl ⟨e1,by simp [Instr.findNow,s1,e2],fun v=>by simp [BJ,ha,e3],fun x hx=>by
      rcases List.mem_cons.1 hx with rfl | hx
      ·exact s3 rfl
      ·exact e4 x hx,by simp [BI,ha,e5]⟩
    ·exact .inr ⟨j+1,m',v0,e1,by simp [Instr.findNow,s1,e2]; omega,by simpa using e3,e4,by simpa using e5,e6,fun v=>by simp [BJ,ha,e7],by simp [BI,ha,e8]⟩
theorem Pb {t kt e:TypeId}{d:TypeDesc}{z:kM}{ok:Bool}(i:Inv G h w) (ht:P.underlying t=some (.map kt e)) (hd:P.underlying kt=some d) (hz:tA P e=some z) (hf:oL d y=true)
  (hb:q7 z ok h x y=some v) (hx:lM G h x X) (hy:lM G h y Y):∃V,(Instr.lookup t X Y ok).run P w=.ok V w∧lM G h v V:=by
 obtain⟨Z,hz1,hz2⟩:=sI (P:=P) (G:=G) (h:=h) (w:=w) hz
 have hyp:rC G.H y Y:=by
  cases d <;> cases y <;> simp [oL] at hf <;> (cases hy with | p _ _ hp=>exact hp)
 have hkey:=Nd hf hyp
 have fin:∀(es:List (kM×kM)) (E:Array MapEntry),aeO G h es E.toList→(match CQ y es with
   | some (some v)=>some (bif ok then kM.tuple [v,.bool true] else v)
   | some none=>some (bif ok then kM.tuple [z,.bool false] else z)
   | none=>none)=some v →
   ∃V,(do
    Instr.checkKey E.isEmpty 10000 kt Y
    let (v,ok') ←match ←Instr.findKey kt Y E.toList with
     | some (_,v)=>pure (v,true)
     | none=>pure (←zeroValue e,false)
    pure (if ok then Value.tuple #[v,.bool ok'] else v):Sem Value).run P w=.ok V w∧lM G h v V:=by
  intro es E hE hv
  have two:∀{a:kM}{A:Value}(b:Bool),lM G h a A→lM G h (bif ok then kM.tuple [a,.bool b] else a) (if ok then Value.tuple #[A,.bool b] else A):=by
   intro a A b ha
   cases ok with
   | false=>exact ha
   | true =>
    refine .tuple _ _ rfl fun j u hu=>?_
    match j with
    | 0=>simp at hu; subst hu; exact ha
    | 1=>simp at hu; subst hu; exact .p _ _ (.bool _)
    | j+2=>simp at hu
  have hck:=MapKept.run_checkKey (P:=P) (w:=w) hd hkey E.isEmpty 9999
  split at hv
  ·rename_i v0 hfi
   cases hv
   rcases Cc hf hyp es E.toList 0 _ hE hfi with ⟨e1,_⟩ | ⟨j,m,v1,e1,e2,_,_,_,e6,_⟩
   ·cases e1
   ·cases e1
    have hfk:=MapKept.run_findKey (w:=w) hd e2
    exact⟨_,by simp only [Sem.run_bind,hck,Result.andThen_ok,hfk,Sem.run_pure],two true e6⟩
  ·rename_i hfi
   cases hv
   rcases Cc hf hyp es E.toList 0 _ hE hfi with ⟨_,e2,_⟩ | ⟨j,m,v1,e1,_⟩
   ·have hfk:=MapKept.run_findKey (w:=w) hd e2
    exact⟨_,by simp only [Sem.run_bind,hck,Result.andThen_ok,hfk,hz1,Sem.run_pure],two false hz2⟩
   ·cases e1
  ·cases hv
 unfold q7 zC at hb
 split at hb
 ·rename_i es hes
  split at hes
  ·cases hes
   have hX:=hx.GY
   subst hX
   obtain⟨V,h1,h2⟩:=fin [] #[] ⟨rfl,by simp⟩ hb
   refine⟨V,?_,h2⟩
   rw [←h1]
   simp only [Instr.lookup,Sem.run_bind,run_underlying ht,Result.andThen_ok,Sem.run_pure]
   rfl
  ·rename_i id
   split at hes
   ·rename_i es' hid
    cases hes
    obtain⟨hX,_⟩:=hx.H6
    subst hX
    obtain⟨E,clock,g1,g2,g3,g4,g5⟩:=i.oP id _ hid
    obtain⟨V,h1,h2⟩:=fin _ E ⟨by simpa using g2,fun j kv hkv=>by simpa using g4 j kv hkv⟩ hb
    refine⟨V,?_,h2⟩
    rw [←h1]
    simp only [Instr.lookup,Sem.run_bind,run_underlying ht,Result.andThen_ok,Sem.run_pure,MapKept.run_getObj_map g1]
    rfl
   ·cases hes
  ·cases hes
 ·cases hb
theorem Inv.mapStep {id clock clock':Nat}{es es':List (kM×kM)}{E E':Array MapEntry}(i:Inv G h w) (hid:h[id]?=some (.map es)) (g1:w.heap[G.oP id]?=some (.map E clock)) (g3:∀k,G.H (G.oP id) k=none)
  (hs:E'.size=es'.length) (hr:∀(j:Nat) (kv:kM×kM),es'[j]?=some kv→∃m,E'[j]?=some m∧IU kv.1=true∧rC G.H kv.1 m.key∧lM G h kv.2 m.val) (hst:MapKept.Stamped E' clock') :
  Inv G (h.set id (.map es')) { w with heap:=w.heap.setIfInBounds (G.oP id) (.map E' clock') }∧Ext G h w G (h.set id (.map es')) { w with heap:=w.heap.setIfInBounds (G.oP id) (.map E' clock') }:=by
 obtain⟨s1,s2⟩:=MapKept.heap_set (w:=w) (o':=.map E' clock') g1
 refine i.step id (.map es) (.map es') hid rfl rfl rfl (by simp) (fun k _ hk=>s2 k (fun e=>hk (by simp [nN,e]))) (fun _ _=>rfl) (fun _ _=>rfl) (fun _ _ _ hh=>hh) (fun _ _ _ _=>rfl) ?_ ⟨rfl,rfl⟩ ?_ ?_
 ·intro b k v hb hv
  rcases hb with hb | hb
  ·have:=i.CG hv; omega
  ·simp only [nN,ab0] at hb
   subst hb
   rw [g3] at hv; cases hv
 ·intro m
  exact⟨E',clock',s1,hs,g3,fun j kv hkv=>by
   obtain⟨mm,a1,a2,a3,a4⟩:=hr j kv hkv
   exact⟨mm,a1,a2,a3,a4.mono m⟩,hst⟩
 ·intro b hb
  exact .inr hb
theorem Pd {t kt e:TypeId}{d:TypeDesc}{h':kP}(i:Inv G h w) (ht:P.underlying t=some (.map kt e)) (hd:P.underlying kt=some d) (hf:oL d y=true)
  (hb:Ad h x y v=some h') (hx:lM G h x X) (hy:lM G h y Y) (hv:lM G h v V):∃w',(Instr.mapUpdate t X Y V).run P w=.ok () w'∧Inv G h' w'∧Ext G h w G h' w':=by
 have hyp:rC G.H y Y:=by
  cases d <;> cases y <;> simp [oL] at hf <;> (cases hy with | p _ _ hp=>exact hp)
 have hkey:=Nd hf hyp
 have hyok:IU y=true:=by cases d <;> cases y <;> simp [oL] at hf <;> rfl
 unfold Ad at hb
 split at hb
 ·rename_i id
  split at hb
  ·rename_i es hid
   obtain⟨hX,_⟩:=hx.H6
   subst hX
   obtain⟨E,clock,g1,g2,g3,g4,g5⟩:=i.oP id _ hid
   have hE:aeO G h es E.toList:=⟨by simpa using g2,fun j kv hkv=>by simpa using g4 j kv hkv⟩
   have hck:=MapKept.run_checkKey (P:=P) (w:=w) hd hkey false 9999
   have hidl:id < h.length:=(ab1.1 hid).1
   split at hb
   ·rename_i r hfi
    cases hb
    rcases Cc hf hyp es E.toList 0 _ hE hfi with ⟨_,e2,e3,e4,_⟩ | ⟨j,m,v0,_,e2,e4,e5,e6,e7,e8,_⟩
    ·have hfk:=MapKept.run_findKey (w:=w) hd e2
     rw [e3]
     refine⟨_,?_,i.mapStep (es':=es++[(y,v)]) (E':=E.push { key:=Y,val:=V,born:=clock }) (clock':=clock+1) hid g1 g3 (by simp [g2]) (fun j kv hkv=>?_) (MapKept.stamped_push g5 e4)⟩
     ·simp only [Instr.mapUpdate,Sem.run_bind,run_underlying ht,Result.andThen_ok,MapKept.run_getObj_map g1,hck,hfk]
      exact MapKept.run_setObj_map _ g1
     ·by_cases hj:j < es.length
      ·rw [af7 hj] at hkv
       obtain⟨mm,a1,a2⟩:=g4 j kv hkv
       exact⟨mm,by rw [Array.getElem?_push,if_neg (by omega)]; exact a1,a2⟩
      ·rw [ac9 (by omega)] at hkv
       have:j - es.length=0:=by
        by_cases h0:j - es.length=0
        ·exact h0
        ·rw [List.getElem?_eq_none (by simp; omega)] at hkv; cases hkv
       rw [this] at hkv
       simp at hkv; subst hkv
       have:j=E.size:=by omega
       subst this
       exact⟨{ key:=Y,val:=V,born:=clock },by simp,hyok,hyp,hv⟩
    ·have hfk:=MapKept.run_findKey (w:=w) hd e2
     rw [e8]
     have hEj:E[j]?=some m:=by simpa using e4
     have hsame:Instr.sameBits 10000 m.key Y=true:=by
      rw [e5]
      cases d <;> cases y <;> simp [oL] at hf <;> cases hyp <;> simp [Instr.sameBits]
      exact(MapKept.bytes_beq _ _).2 rfl
     refine⟨_,?_,i.mapStep (es':=es.set j (y,v)) (E':=E.modify j fun e=>{ e with key:=Y,val:=V }) (clock':=clock) hid g1 g3 (by simp [g2]) (fun l kv hkv=>?_) (MapKept.stamped_modify g5 j _ (fun _ _=>rfl) fun e _ he=>by rw [hEj] at he; cases he; exact e5.symm)⟩
     ·simp only [Instr.mapUpdate,Sem.run_bind,run_underlying ht,Result.andThen_ok,MapKept.run_getObj_map g1,hck,hfk,al6,hEj,Option.map_some,Option.getD_some,Instr.keyThatStays,hsame,if_true,Sem.run_pure]
      exact MapKept.run_setObj_map _ g1
     ·rw [List.getElem?_set] at hkv
      rw [Array.getElem?_modify]
      by_cases hjl:j=l
      ·subst hjl
       have hlt:j < es.length:=(ab1.1 e6).1
       simp [hlt] at hkv
       subst hkv
       exact⟨{ m with key:=Y,val:=V },by simp [hEj],hyok,hyp,hv⟩
      ·rw [if_neg hjl] at hkv
       rw [if_neg hjl]
       exact g4 l kv hkv
   ·cases hb
  ·cases hb
 ·cases hb
theorem Pc {t kt e ty:TypeId}{d:TypeDesc}{h':kP}(i:Inv G h w) (ht:P.underlying t=some (.map kt e)) (hd:P.underlying kt=some d) (hf:oL d y=true)
  (hb:DZ h x y=some h') (hx:lM G h x X) (hy:lM G h y Y) {ts:Array TypeId}(hts:ts[0]?=some t):∃w',(Builtin.delete_ ts ty #[X,Y]).run P w=.ok (.tuple #[]) w'∧Inv G h' w'∧Ext G h w G h' w':=by
 have hyp:rC G.H y Y:=by
  cases d <;> cases y <;> simp [oL] at hf <;> (cases hy with | p _ _ hp=>exact hp)
 have hkey:=Nd hf hyp
 have hck:=fun e=>MapKept.run_checkKey (P:=P) (w:=w) hd hkey e 9999
 unfold DZ at hb
 split at hb
 ·-- a nil map
  split at hb
  ·cases hb
   have hX:=hx.GY
   subst hX
   exact⟨w,by simp [Builtin.delete_,hts,run_underlying ht,hck,Sem.run_pure],i,Ext.refl G _ w⟩
  ·cases hb
 ·rename_i id
  split at hb
  ·rename_i es hid
   split at hb
   case isFalse=>cases hb
   rename_i hcond
   cases hb
   obtain⟨hX,_⟩:=hx.H6
   subst hX
   obtain⟨E,clock,g1,g2,g3,g4,g5⟩:=i.oP id _ hid
   have hE:aeO G h es E.toList:=⟨by simpa using g2,fun j kv hkv=>by simpa using g4 j kv hkv⟩
   obtain⟨r,hfi⟩:=Option.isSome_iff_exists.1 hcond.2
   rcases Cc hf hyp es E.toList 0 _ hE hfi with ⟨_,e2,_,_,e5⟩ | ⟨j,m,v0,_,e2,e4,e5,e6,e7,_,e9⟩
   ·have hfk:=MapKept.run_findKey (w:=w) hd e2
    rw [e5]
    obtain⟨s1,s2⟩:=i.mapStep (es':=es) (E':=E) (clock':=clock) hid g1 g3 g2 g4 g5
    exact⟨_,by simp [Builtin.delete_,hts,run_underlying ht,MapKept.run_getObj_map g1,hck,hfk,MapKept.run_setObj_map _ g1,Sem.run_pure],s1,s2⟩
   ·have hfk:=MapKept.run_findKey (w:=w) hd e2
    rw [e9]
    have hjl:j < es.length:=(ab1.1 e6).1
    have hjE:j < E.size:=by omega
    have her:(E.eraseIdxIfInBounds j).toList=E.toList.eraseIdx j:=by
     rw [Array.eraseIdxIfInBounds,dif_pos hjE]; simp
    obtain⟨s1,s2⟩:=i.mapStep (es':=es.eraseIdx j) (E':=E.eraseIdxIfInBounds j) (clock':=clock) hid g1 g3
     (by rw [←ak1,her,List.length_eraseIdx,List.length_eraseIdx]; simp [g2])
     (fun l kv hkv=>by
      rw [←ad3,her,List.getElem?_eraseIdx]
      rw [List.getElem?_eraseIdx] at hkv
      split at hkv
      ·rename_i hl
       rw [if_pos hl,ad3]; exact g4 l kv hkv
      ·rename_i hl
       rw [if_neg hl,ad3]; exact g4 (l+1) kv hkv)
     (MapKept.stamped_erase g5 j)
    exact⟨_,by simp [Builtin.delete_,hts,run_underlying ht,MapKept.run_getObj_map g1,hck,hfk,MapKept.run_setObj_map _ g1,Sem.run_pure],s1,s2⟩
  ·cases hb
 ·cases hb
theorem BM:∀{rows:List (List kM)}{bs:List UInt8},bytesOf rows=some bs→∃ns:List Int,rows=ns.map (fun n=>[kM.int .u8 n])∧bs=ns.map fun n=>UInt8.ofNat n.toNat
 | [],bs,hb=>by simp [bytesOf] at hb; subst hb; exact⟨[],rfl,rfl⟩
 | row::r,bs,hb=>by
  unfold bytesOf at hb
  split at hb
  ·rename_i h0; cases h0
  ·rename_i n r' h0
   cases h0
   split at hb
   ·rename_i bs' hbs
    cases hb
    obtain⟨ns,h1,h2⟩:=BM hbs
    exact⟨n::ns,by simp [h1],by simp [h2]⟩
   ·cases hb
  ·cases hb
theorem Bq {ns:List Int}(hrows:pY 1 h x=some (ns.map (fun n=>[kM.int .u8 n]))) (i:Inv G h w) (hx:lM G h x X):∃V,(Conv.bytesToString X).run P w=.ok V w∧lM G h (.str (ns.map fun n=>UInt8.ofNat n.toNat)) V:=by
 obtain⟨a,news,s⟩:=Ae i hrows hx
 obtain⟨cap,hX⟩:=s.form
 have hnews:news=ns.map (Value.int .u8):=by
  apply List.ext_getElem?
  intro j
  cases hj:ns[j]? with
  | none =>
   have:ns.length≤j:=List.getElem?_eq_none_iff.1 hj
   rw [List.getElem?_eq_none (by rw [s.len]; simp; exact this),List.getElem?_eq_none (by simpa using this)]
  | some n =>
   obtain⟨u,h1,h2,_⟩:=s.rel j 0 [kM.int .u8 n] (.int .u8 n) (by simp [hj]) rfl
   simp only [Nat.mul_one,al5] at h1
   rw [h1,ai1,hj]
   cases h2; rfl
 have hstr:(ns.foldl (fun r n=>r.push (UInt8.ofNat n.toNat)) ByteArray.empty)=⟨(ns.map fun n=>UInt8.ofNat n.toNat).toArray⟩:=by
  have:∀(ns:List Int) (b:ByteArray),ns.foldl (fun r n=>r.push (UInt8.ofNat n.toNat)) b=⟨(b.data.toList++ns.map fun n=>UInt8.ofNat n.toNat).toArray⟩:=by
   intro ns
   induction ns with
   | nil=>intro b; cases b; simp
   | cons n ns ih=>intro b; rw [List.foldl_cons,ih]; cases b; simp [ByteArray.push]
  rw [this]; rfl
 refine⟨.string ⟨(ns.map fun n=>UInt8.ofNat n.toNat).toArray⟩,?_,.p _ _ (.str _)⟩
 rw [hX]
 cases a with
 | none =>
  have h0:ns=[]:=by
   cases ns with
   | nil=>rfl
   | cons n ns =>
    obtain⟨ad,h1,_⟩:=s.at_ 0 (.int .u8 n) (by rw [hnews]; rfl)
    cases h1
  subst h0
  rfl
 | some ad =>
  have hload:(loadCells ad (ns.map (fun n=>[kM.int .u8 n])).length).run P w=.ok (ns.map (Value.int .u8)).toArray w:=by
   have:=run_loadCells (P:=P) w ad ns.length (fun j=>news.getD j undef) (fun j hj=>by
    have hjn:news[j]?=some (news.getD j undef):=by
     rw [af6,ac0 (by rw [hnews]; simpa using hj)]; rfl
    obtain⟨ad',h1,h2⟩:=s.at_ j _ hjn
    cases h1; exact h2)
   rw [List.length_map,this]
   congr 1
   apply Array.ext'
   simp only [List.toList_toArray] at *
   apply List.ext_getElem?
   intro j
   rw [hnews]
   by_cases hj:j < ns.length
   ·simp [hj,af6]
   ·simp [List.getElem?_eq_none (show ns.length≤j by omega),hj]
  have:=run_bytesToString (P:=P) w ad _ cap ns hload
  rw [hstr] at this
  exact this
theorem K0 (i:Inv G h w) (hb:xE x=some v) (hx:lM G h x X):∃V,(Conv.bytesToString X).run P w=.ok V w∧lM G h v V:=by
 unfold xE at hb
 split at hb
 ·rename_i rows tok
  simp only [ac6] at hb
  obtain⟨bs,hbs,rfl⟩:=hb
  obtain⟨ns,rfl,rfl⟩:=BM hbs
  have hrows:pY 1 h (.slice (ns.map (fun n=>[kM.int .u8 n])) tok)=some (ns.map (fun n=>[kM.int .u8 n])):=by
   simp [pY]
  exact Bq hrows i hx
 ·cases hb
theorem O9 (i:Inv G h w) (hb:Fx h x=some v) (hx:lM G h x X):∃V,(Conv.bytesToString X).run P w=.ok V w∧lM G h v V:=by
 unfold Fx at hb
 split at hb
 ·split at hb
  ·rename_i rows hrows
   simp only [ac6] at hb
   obtain⟨bs,hbs,rfl⟩:=hb
   obtain⟨ns,rfl,rfl⟩:=BM hbs
   exact Bq hrows i hx
  ·cases hb
 ·split at hb
  ·rename_i rows hrows
   simp only [ac6] at hb
   obtain⟨bs,hbs,rfl⟩:=hb
   obtain⟨ns,rfl,rfl⟩:=BM hbs
   exact Bq hrows i hx
  ·cases hb
 ·exact K0 i hb hx
def J_ (P:Program) (A:CF) (f:Nat):Prop :=
 (∀(X:Array Value) (w:World),(callFunc f X).run P w=.ok (.enter f X) w) ∧
 ∀(w:World) (b off t:Nat) (C:Array Value),A.bld t off C.size=true→w.heap[b]?=some (.cells C t (0,0))→off < C.size→(C[off]?=some (.pointer none)∨C[off]?=some (.pointer (some ⟨b,off,none⟩))) →
  Calls P f #[.pointer (some ⟨b,off,none⟩)] w fun e w'=>e=.returned (.tuple #[])∧w'=w.setRow b (C.toList.take off++[Value.pointer (some ⟨b,off,none⟩)]++C.toList.drop (off+1)).toArray
def J9 (P:Program) (f:Nat) (e:TypeId):Prop :=
 (∀(X:Array Value) (w:World),(callFunc f X).run P w=.ok (.enter f X) w) ∧
 (∀(w:World) (b off:Nat),w.cell? ⟨b,off+1,none⟩=some (.slice none 0 0)→Calls P f #[.pointer (some ⟨b,off,none⟩)] w fun ev w'=>ev=.returned (.string ⟨#[]⟩)∧∃d,w'={ w with drawn:=d }) ∧
 ∀(w:World) (b off g cap:Nat) (C:Array Value) (l:List UInt8),w.cell? ⟨b,off+1,none⟩=some (.slice (some ⟨g,0,none⟩) l.length cap)→w.heap[g]?=some (.cells C e (0,0))→l≠[]→l.length≤cap→cap≤maxLen→C.size=cap →
  (∀(j:Nat) x,l[j]?=some x→C[j]?=some (.int .u8 (x.toNat:Int)))→Calls P f #[.pointer (some ⟨b,off,none⟩)] w fun ev w'=>ev=.returned (.string ⟨l.toArray⟩)∧∃d,w'=World.freeze { w with drawn:=d } ⟨g,0,none⟩ l.length
def axI (P:Program) (A:CF) (f:Nat) (g:List kM→Option kM):Prop :=
 (∀(X:Array Value) (w:World),(callFunc f X).run P w=.ok (.enter f X) w) ∧
 ∀(G:Gh) (h:kP) (w:World) (args:List kM) (X:Array Value) (v:kM),Inv G h w→tM A G h w→args.length=X.size→(∀(i:Nat) (u:kM),args[i]?=some u→lM G h u (X.getD i undef))→g args=some v →
  Calls P f X w fun e w'=>(∃V,e=.returned V∧rC G.H v V)∧w'.os=w.os∧w'.tape=w.tape∧w'.output=w.output∧∃os,w'.heap=w.heap++os
def auW (P:Program) (A:CF) (f:Nat):anE→Prop
 | .copyCheck=>J_ P A f
 | .bldString e=>J9 P f e
 | .fn g=>axI P A f g
def yT (P:Program) (A:CF):Prop:=(∀f,A.ext f=some .indexByte→∃fn,P.funcs[f]?=some fn∧(fn.name == "runtime.NumGoroutine")=false∧fn.body.isNone=true∧Extern.findNext fn=none∧Extern.find fn=some Extern.BytealgIndexByte.indexByte)∧∀f k,A.prm f=some k→auW P A f k
theorem O_ (l:List UInt8) (c:UInt8):tC l c=Lib.indexByte l c:=by
 induction l with
 | nil=>rfl
 | cons b l ih=>simp only [tC,Lib.indexByte,ih]
theorem MU {A:CF}{f:Nat}{k:amR}{args:List kM}{r:vG×kP}{Xs:Array Value}(hX:yT P A) (hf:A.ext f=some k) (hb:agR k args h=some r) (hl:args.length=Xs.size)
  (hr:∀(i:Nat) (v:kM),args[i]?=some v→lM G h v (Xs.getD i undef)):∃v V,r=(.ret v,h)∧(callFunc f Xs).run P w=.ok (.value V) w∧lM G h v V:=by
 unfold agR at hb
 simp only [ac6] at hb
 obtain⟨v,hv,rfl⟩:=hb
 cases k with
 | indexByte =>
  unfold azM at hv
  split at hv
  ·rename_i s c _
   cases hv
   obtain⟨fn,e1,e2,e3,e4,e5⟩:=hX.1 f hf
   have h0:=(hr 0 _ rfl).AD
   have h1:=(hr 1 _ rfl).q_
   have hXs:Xs=#[.string ⟨s.toArray⟩,.int .u8 c]:=by
    obtain⟨l⟩:=Xs
    match l,hl,h0,h1 with
    | [a,b],_,h0,h1=>simp at h0 h1; subst h0; subst h1; rfl
   refine⟨_,.int .i64 (tC s (UInt8.ofNat c.toNat)),rfl,?_,.p _ _ (.int _ _)⟩
   rw [run_callFunc_extern e1 e2 e3 e4 e5,hXs,Lib.run_indexByteString,O_]
   rfl
  ·cases hv
end
end
end Hk
