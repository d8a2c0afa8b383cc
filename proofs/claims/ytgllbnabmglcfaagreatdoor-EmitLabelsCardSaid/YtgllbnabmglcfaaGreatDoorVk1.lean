/-
  The texts Vk.Abs, Vk.Eval, Vk.Rel, Vk.Base, Vk.Pure, Vk.Pure2, Vk.Pure3, Vk.Mem, Vk.Mem2, Vk.Mem3, Vk.Mem4, Vk.Mem5, Vk.Mem6, Vk.Mem7, Vk.Mem8, Vk.Mem9, one behind another. No conditions.
-/
import Derived.WalkKit
import Derived.MapKept
import Derived.Laws.MakeOwn
import Derived.Laws.BytesString
import Derived.Lib.Bytealg
import Derived.RangeFuncSeq
set_option linter.unusedVariables false
set_option linter.unusedSimpArgs false
set_option linter.all false
open Array renaming getD_eq_getD_getElem? → aj5, getElem?_toList → aq2, length_toList → av9
open List renaming all_eq_true → aq5, append_assoc → aw8, eq_nil_of_length_eq_zero → as8, getD_eq_getElem?_getD → ah6, getElem?_append_left → aq3, getElem?_append_right → ak0, getElem?_drop → aq4, getElem?_eq_getElem → ag8, getElem?_eq_some_iff → ag0, getElem?_map → ak4, getElem?_take → ar0, length_append → au9, length_take → ar6, mem_of_getElem? → aj8, range → ar9, replicate → ak7
open Nat renaming add_mul → aB1, add_zero → aA4, le_refl → ak5, mul_le_mul_right → as0, zero_add → av7
open Option renaming bind_eq_some_iff → ac6, map_eq_some_iff → ah7
open Option.some renaming injEq → ah5
open Prod.mk renaming injEq → as7
namespace Hk
section
open Go
inductive Tok where
 | no | nil | own (id:Nat)
 deriving DecidableEq,Inhabited
inductive lS where
 | junk
 | bool (b:Bool)
 | int (k:IntKind) (n:Int)
 | str (s:List UInt8)
 | agg (cs:List lS)
 | tuple (vs:List lS)
 | slice (rows:List (List lS)) (tok:Tok)
 | pptr (cs:List lS)
 | ptr (id off:Nat)
 | nilptr
 | mslice (id off len sz:Nat)
 | vslice (id tot off len sz:Nat)
 | vptr (id tot off:Nat)
 | map (id:Nat)
 | nilmap
 | func (f:Nat) (first cap:List lS)
 | nilfunc
 | meth (n:String) (t:Nat)
 | iface (t:Nat) (v:lS)
 | niliface
 deriving Inhabited
inductive mT where
 | free
 | gone
 | cells (cs:List lS)
 | front (n sz:Nat) (t:Nat:=0)
 | vec (tot sz:Nat) (cs:List lS)
 | map (es:List (lS×lS))
 | tcells (t:Nat) (cs:List lS)
 deriving Inhabited
abbrev lT:=List mT
inductive Ex where
 | normal | ret | exit (id:Nat) | pan (v:lS)
 deriving Inhabited
inductive nT where
 | ret (v:lS) | pan (v:lS)
 deriving Inhabited
abbrev mA:=Nat→List lS→lT→Option (nT×lT)
abbrev R:=Ex×List lS×lT
inductive aaG where
 | indexByte
 deriving DecidableEq
inductive aaQ where
 | copyCheck
 | bldString (e:Nat)
 | fn (g:List lS→Option lS)
structure Wn where
 seq:List lS→lT→Option (List (List lS))
structure xO where
 glob:Nat→Option (List lS):=fun _=>none
 esc:Nat→Bool:=fun _=>false
 grow:Nat→Bool:=fun _=>false
 pure:Nat→Bool:=fun _=>false
 ext:Nat→Option aaG:=fun _=>none
 pan:Nat→Bool:=fun _=>false
 dfr:Nat→Bool:=fun _=>false
 srt:Nat→Bool:=fun _=>false
 srf:Nat→Option Nat:=fun _=>none
 vec:Nat→Bool:=fun _=>false
 frz:Nat→Bool:=fun _=>false
 vecT:Nat→Nat→Bool:=fun _ _=>false
 vmk:Nat→Bool:=fun _=>false
 jt:Nat→Bool:=fun _=>false
 sub:Nat→Bool:=fun _=>false
 out:Nat→Bool:=fun _=>false
 frr:Nat→Bool:=fun _=>false
 rb:Nat→Bool:=fun _=>false
 vlitT:Nat→Nat→Bool:=fun _ _=>false
 frl:Nat→Bool:=fun _=>false
 lkp:Nat→Bool:=fun _=>false
 tb:Nat→Bool:=fun _=>false
 tbt:Nat→Bool:=fun _=>false
 bld:Nat→Nat→Nat→Bool:=fun _ _ _=>false
 gsz:Nat→Option Nat:=fun _=>none
 prm:Nat→Option aaQ:=fun _=>none
 rgf:Nat→Bool:=fun _=>false
 itr:Nat→Option Wn:=fun _=>none
 vlit:Nat→Bool:=fun _=>false
 kp:Nat→Bool:=fun _=>false
 ck:Nat→Bool:=fun _=>false
def lS.cells:lS→List lS
 | .agg cs=>cs
 | v=>[v]
def BG:Value→lS
 | .bool b=>.bool b
 | .int k n=>.int k n
 | .string s=>.str s.data.toList
 | .pointer none=>.nilptr
 | .slice none 0 0=>.slice [] .nil
 | .map none=>.nilmap
 | .nilFunc=>.nilfunc
 | .nilIface=>.niliface
 | _=>.junk
def ofConst:Value→lS
 | .agg cs=>.agg (cs.toList.map BG)
 | .tuple cs=>match cs.toList with | []=>.tuple [] | _=>.junk
 | v=>BG v
def qV (A:xO) (ρ:List lS):Operand→lS
 | .tmp t=>ρ.getD t .junk
 | .const v=>ofConst v
 | .global g=>match A.glob g with | some cs=>.pptr cs | none=>.junk
 | .func f=>.func f [] []
def lS.Bc:lS→Option lS
 | .bool b=>some (.bool b)
 | .int k n=>some (.int k n)
 | .str s=>some (.str s)
 | .slice rows _=>some (.slice rows .no)
 | .pptr cs=>some (.pptr cs)
 | .nilptr=>some .nilptr
 | .nilmap=>some .nilmap
 | .func f [] []=>some (.func f [] [])
 | .nilfunc=>some .nilfunc
 | .niliface=>some .niliface
 | _=>none
def oM:List lS→Option (List lS)
 | []=>some []
 | v::r=>match v.Bc,oM r with
  | some x,some y=>some (x::y)
  | _,_=>none
def lS.o7:lS→Bool
 | .junk=>true
 | _=>false
def lS.mZ:lS→Bool
 | .junk | .agg _ | .tuple _=>false
 | _=>true
def rowsOf:Nat→Nat→List lS→List (List lS)
 | 0,_,_=>[]
 | n+1,sz,cs=>cs.take sz::rowsOf n sz (cs.drop sz)
def uS:lS→Option Nat
 | .ptr id _=>some id
 | .mslice id _ _ _=>some id
 | .vslice id _ _ _ _=>some id
 | .vptr id _ _=>some id
 | .map id=>some id
 | .slice _ (.own id)=>some id
 | _=>none
def lS.tM (m:Nat):lS→Bool
 | .agg _=>false
 | .tuple _=>false
 | .iface _ _=>false
 | .func _ first cap=>first.isEmpty&&cap.isEmpty
 | v=>match uS v with | some r=>decide (r<m) | none=>true
def lS.sM (m:Nat):lS→Bool
 | .agg cs=>cs.all (lS.tM m)
 | .iface _ (.agg cs)=>cs.all (lS.tM m)
 | .iface _ v=>v.tM m
 | .func _ first cap=>first.all (lS.tM m)&&cap.all (lS.tM m)
 | v=>v.tM m
def lS.oL (m:Nat) (h:lT):lS→lS
 | .slice rows (.own id)=>bif decide (id<m) then .slice rows (.own id) else .slice rows .no
 | .ptr id off=>bif decide (id<m) then .ptr id off else
   match h[id]? with
   | some (.cells cs)=>match oM (cs.drop off) with
    | some row=>.pptr row
    | none=>.junk
   | _=>.junk
 | .mslice id off len sz=>bif decide (id<m) then .mslice id off len sz else
   match h[id]? with
   | some (.cells cs)=>match oM ((cs.drop off).take (len*sz)) with
    | some row=>bif decide (off+len*sz≤cs.length) then .slice (rowsOf len sz row) .no else .junk
    | none=>.junk
   | _=>.junk
 | .vslice id tot off len sz=>bif decide (id<m) then .vslice id tot off len sz else
   match h[id]? with
   | some (.vec tot' _ cs)=>match oM ((cs.drop off).take (len*sz)) with
    | some row=>bif decide (tot=tot'∧off+len*sz≤cs.length) then .slice (rowsOf len sz row) .no else .junk
    | none=>.junk
   | _=>.junk
 | v=>bif v.sM m then v else .junk
def lS.qJ (m:Nat) (h:lT):lS→lS
 | .agg cs=>.agg (cs.map (·.oL m h))
 | .tuple vs=>.tuple (vs.map fun v=>match v with | .agg cs=>.agg (cs.map (·.oL m h)) | v=>v.oL m h)
 | .iface t (.agg cs)=>.iface t (.agg (cs.map (·.oL m h)))
 | .iface t v=>.iface t (v.oL m h)
 | v=>v.oL m h
def nQ (m:Nat) (h:lT):List lS→Option (List lS)
 | []=>some []
 | v::r=>bif (v.oL m h).mZ then(match nQ m h r with | some r'=>some (v.oL m h::r') | none=>none) else none
def pX (m:Nat) (h:lT):mT→Option mT
 | .cells cs=>(nQ m h cs).map .cells
 | .vec tot sz cs=>(nQ m h cs).map (.vec tot sz)
 | .tcells t cs=>(nQ m h cs).map (.tcells t)
 | .map es=>bif es.all (fun e=>e.2.sM m) then some (.map es) else none
 | b=>some b
def pC (m:Nat) (h:lT):List mT→Option (List mT)
 | []=>some []
 | b::r=>match pX m h b,pC m h r with
  | some b',some r'=>some (b'::r')
  | _,_=>none
def o_ (m:Nat) (h:lT):Option lT:=pC m h (h.take m)
def lS.pQ:lS→lS
 | .slice rows _=>.slice rows .no
 | v=>v
def lS.l_:lS→lS
 | .agg cs=>.agg (cs.map lS.pQ)
 | .tuple vs=>.tuple (vs.map fun v=>match v with | .agg cs=>.agg (cs.map lS.pQ) | v=>v.pQ)
 | v=>v.pQ
def mP (op:BinOp) (x y:lS):Option lS :=
 match x,y with
 | .int k a,.int k' b =>
  match op with
  | .shl=>if b<0 then none else some (.int k (k.wrap (a*2^(min b.toNat k.bits))))
  | .shr=>if b<0 then none else some (.int k (a.fdiv (2^(min b.toNat k.bits))))
  | _=>if k≠k' then none else
   match op with
   | .add=>some (.int k (k.wrap (a+b)))
   | .sub=>some (.int k (k.wrap (a-b)))
   | .mul=>some (.int k (k.wrap (a*b)))
   | .quo=>if b=0 then none else some (.int k (k.wrap (a.tdiv b)))
   | .rem=>if b=0 then none else some (.int k (a.tmod b))
   | .and=>some (.int k (k.wrap (BitVec.ofInt k.bits a &&& BitVec.ofInt k.bits b).toNat))
   | .or=>some (.int k (k.wrap (BitVec.ofInt k.bits a ||| BitVec.ofInt k.bits b).toNat))
   | .xor=>some (.int k (k.wrap (BitVec.ofInt k.bits a ^^^ BitVec.ofInt k.bits b).toNat))
   | .andNot=>some (.int k (k.wrap (BitVec.ofInt k.bits a &&& ~~~ BitVec.ofInt k.bits b).toNat))
   | .eql=>some (.bool (a == b))
   | .neq=>some (.bool (a != b))
   | .lss=>some (.bool (a<b))
   | .leq=>some (.bool (a≤b))
   | .gtr=>some (.bool (a > b))
   | .geq=>some (.bool (a≥b))
   | _=>none
 | .str a,.str b =>
  match op with
  | .add=>if a.length+b.length≤4611686018427387904 then some (.str (a++b)) else none
  | .eql=>some (.bool (a == b))
  | .neq=>some (.bool (!(a == b)))
  | .lss=>some (.bool (Op.bytesLess a b))
  | .leq=>some (.bool (Op.bytesLess a b || a == b))
  | .gtr=>some (.bool (!(Op.bytesLess a b || a == b)))
  | .geq=>some (.bool (!(Op.bytesLess a b)))
  | _=>none
 | _,_=>none
def Oq (op:BinOp) (x y:lS):Option lS :=
 match op,x,y with
 | .eql,.bool a,.bool b=>some (.bool (a == b))
 | .neq,.bool a,.bool b=>some (.bool (!(a == b)))
 | _,_,_=>none
def Ia:lS→Option Bool
 | .nilptr=>some true
 | .ptr _ _=>some false
 | .vptr _ _ _=>some false
 | .pptr _=>some false
 | _=>none
def WD (op:BinOp) (x y:lS):Option lS :=
 match op,y with
 | .eql,.nilptr=>(Ia x).map .bool
 | .neq,.nilptr=>(Ia x).map fun b=>.bool (!b)
 | _,_=>none
inductive Kd where
 | b | i | s
 deriving DecidableEq
def yG:Kd→lS→lS→Option Bool
 | .i,.int k a,.int k' b=>if k=k' then some (a == b) else none
 | .b,.bool a,.bool b=>some (a == b)
 | .s,.str a,.str b=>some (a == b)
 | _,_,_=>none
def pE:List Kd→List lS→List lS→Option Bool
 | [],[],[]=>some true
 | k::ks,x::xs,y::ys=>match yG k x y,pE ks xs ys with
  | some a,some b=>some (a&&b)
  | _,_=>none
 | _,_,_=>none
def qD (ks:List Kd):lS→lS→Option Bool
 | .agg xs,.agg ys=>pE ks xs ys
 | _,_=>none
def yD (op:UnOp) (x:lS):Option lS :=
 match op,x with
 | .neg,.int k n=>some (.int k (k.wrap (0-n)))
 | .xor,.int k n=>some (.int k (k.wrap (BitVec.ofInt k.bits (if k.signed then -1 else k.max) ^^^ BitVec.ofInt k.bits n).toNat))
 | .not,.bool b=>some (.bool !b)
 | _,_=>none
def Bo (k:IntKind):lS→Option lS
 | .int _ n=>some (.int k (k.wrap n))
 | _=>none
def nA (c a b:lS):Option lS :=
 match c with
 | .bool g=>some (bif g then a else b)
 | _=>none
def apart (isAgg:Bool) (n:Nat) (cs:List lS) (off:Nat):Option lS :=
 bif isAgg then(if off+n≤cs.length then some (.agg ((cs.drop off).take n)) else none) else cs[off]?
def Bp (isAgg:Bool) (n off:Nat):lS→Option lS
 | .agg cs=>apart isAgg n cs off
 | _=>none
def nO (i:Nat):lS→Option lS
 | .tuple vs=>vs[i]?
 | _=>none
def tC (x i:lS):Option lS :=
 match x,i with
 | .str s,.int _ n=>if 0≤n then(s[n.toNat]?).map fun b=>.int .u8 b.toNat else none
 | _,_=>none
def E6 (isAgg:Bool) (len sz:Nat) (x i:lS):Option lS :=
 match x,i with
 | .agg cs,.int _ n=>if 0≤n∧n<len then apart isAgg sz cs (n.toNat*sz) else none
 | _,_=>none
def mI (sz:Nat) (x i:lS):Option lS :=
 match x,i with
 | .slice rows _,.int _ n =>
  if 0≤n then match rows[n.toNat]? with
   | some row=>if row.length=sz then some (.pptr row) else none
   | none=>none
  else none
 | .mslice id off len sz',.int _ n=>if 0≤n∧n<len∧sz'=sz then some (.ptr id (off+n.toNat*sz)) else none
 | .vslice id tot off len sz',.int _ n=>if 0≤n∧n<len∧sz'=sz then some (.vptr id tot (off+n.toNat*sz)) else none
 | _,_=>none
def xT (len sz:Nat) (x i:lS):Option lS :=
 match x,i with
 | .ptr id off,.int _ n=>if 0≤n∧n<len then some (.ptr id (off+n.toNat*sz)) else none
 | .pptr cs,.int _ n=>if 0≤n∧n<len then some (.pptr (cs.drop (n.toNat*sz))) else none
 | _,_=>none
def mG (off:Nat):lS→Option lS
 | .ptr id o=>some (.ptr id (o+off))
 | .vptr id tot o=>some (.vptr id tot (o+off))
 | .pptr cs=>some (.pptr (cs.drop off))
 | _=>none
def pZ (x:Option lS) (dflt:Nat):Option Nat :=
 match x with
 | none=>some dflt
 | some (.int _ n)=>if 0≤n then some n.toNat else none
 | _=>none
def sO (x:lS) (lo hi:Option lS):Option lS :=
 match x with
 | .str s=>match pZ lo 0,pZ hi s.length with
  | some l,some u=>if l≤u∧u≤s.length then some (.str ((s.drop l).take (u-l))) else none
  | _,_=>none
 | _=>none
def E9 (len sz:Nat) (x:lS) (lo hi:Option lS):Option lS :=
 match x,lo,hi with
 | .ptr id off,none,none=>if 0<len then some (.mslice id off len sz) else none
 | _,_,_=>none
def pF (sz:Nat) (x:lS) (lo hi:Option lS):Option lS :=
 match x with
 | .slice rows _=>match pZ lo 0,pZ hi rows.length with
  | some l,some u=>if l≤u∧u≤rows.length∧(rows.all fun r=>r.length == sz) then some (.slice ((rows.drop l).take (u-l)) .no) else none
  | _,_=>none
 | .mslice id off len sz'=>match pZ lo 0,pZ hi len with
  | some l,some u=>if l≤u∧u≤len∧sz'=sz then some (.mslice id (off+l*sz) (u-l) sz) else none
  | _,_=>none
 | .vslice id tot off len sz'=>match pZ lo 0,pZ hi len with
  | some l,some u=>if l≤u∧u≤len∧sz'=sz then(if l=0∨l<u then some (.vslice id tot (off+l*sz) (u-l) sz) else some (.slice [] .no)) else none
  | _,_=>none
 | _=>none
def GW:lS→Option lS
 | .str s=>some (.int .i64 s.length)
 | _=>none
def nK:lS→Option lS
 | .slice rows _=>some (.int .i64 rows.length)
 | .mslice _ _ len _=>some (.int .i64 len)
 | .vslice _ _ _ len _=>some (.int .i64 len)
 | _=>none
def DR (x y:lS):Option lS :=
 match x,y with
 | .int k a,.int _ b=>some (.int k (if b > a then b else a))
 | _,_=>none
def CS (x y:lS):Option lS :=
 match x,y with
 | .int k a,.int _ b=>some (.int k (if b<a then b else a))
 | _,_=>none
def OI:lS→List lS→Option lS
 | x,[]=>some x
 | x,y::r=>(CS x y).bind fun z=>OI z r
def OG:lS→List lS→Option lS
 | x,[]=>some x
 | x,y::r=>(DR x y).bind fun z=>OG z r
def oX (h:lT) (id:Nat):Option (List lS) :=
 match h[id]? with
 | some (.cells cs)=>some cs
 | _=>none
def oQ (h:lT) (id tot:Nat):Option (Nat×List lS) :=
 match h[id]? with
 | some (.vec tot' sz cs)=>if tot'=tot then some (sz,cs) else none
 | _=>none
def mF (isAgg:Bool) (n:Nat) (h:lT):lS→Option lS
 | .pptr cs=>apart isAgg n cs 0
 | .ptr id off=>match oX h id with
  | some cs=>apart isAgg n cs off
  | none=>none
 | .vptr id tot off=>match oQ h id tot with
  | some x=>apart isAgg n x.2 off
  | none=>none
 | _=>none
def putCells (cs:List lS) (off:Nat) (vs:List lS):List lS:=cs.take off++vs++cs.drop (off+vs.length)
def lS.isNil:lS→Bool
 | .slice [] .nil=>true
 | _=>false
def tL (h:lT) (o v:lS):lS:=bif v.isNil then(match o with
 | .slice [] (.own id)=>(match h[id]? with
  | some (.front 0 0)=>.slice [] (.own id)
  | _=>v)
 | _=>v) else v
def qS (h:lT):List lS→List lS→List lS
 | o::os,v::vs=>tL h o v::qS h os vs
 | _,vs=>vs
def mL (n:Nat) (h:lT) (p v:lS):Option lT :=
 match p with
 | .ptr id off=>match oX h id with
  | some cs =>
   let vs:=v.cells
   if vs.length=n∧off+n≤cs.length∧vs.all lS.mZ then some (h.set id (.cells (putCells cs off (qS h (cs.drop off) vs)))) else none
  | none=>none
 | .vptr id tot off=>match oQ h id tot with
  | some x =>
   let vs:=v.cells
   if vs.length=n∧off+n≤x.2.length∧vs.all lS.mZ then some (h.set id (.vec tot x.1 (putCells x.2 off vs))) else none
  | none=>none
 | _=>none
def nX:Nat→List lS→List lS×lT
 | _,[]=>([],[])
 | id,.slice [] .nil::r=>let (a,b):=nX (id+1) r;(.slice [] (.own id)::a,.front 0 0::b)
 | id,v::r=>let (a,b):=nX id r;(v::a,b)
def nP (n:Nat) (h:lT) (v:lS):Option (lS×lT) :=
 let vs:=v.cells
 if vs.length=n∧vs.all lS.mZ then
  let (cs,fs):=nX (h.length+1) vs
  some (.ptr h.length 0,h++(.cells cs::fs))
 else none
def L9 (isAgg:Bool) (n:Nat) (h:lT):lS→Option lS:=fun _=>none
def Md (n:Nat) (h:lT) (p v:lS):Option lT:=none
def E7 (tb g:Bool) (n:Nat) (h:lT) (x:lS):Option lS:=bif tb then L9 g n h x else mF g n h x
def TG (tb:Bool) (n:Nat) (h:lT) (p v:lS):Option lT:=bif tb then Md n h p v else mL n h p v
def DS (t n:Nat) (h:lT) (v:lS):Option (lS×lT):=none
def KE (tb:Bool) (t n:Nat) (h:lT) (v:lS):Option (lS×lT):=bif tb then DS t n h v else nP n h v
def sR (sz:Nat) (h:lT):lS→Option (List (List lS))
 | .slice rows _=>if rows.all fun r=>r.length == sz then some rows else none
 | .mslice id off len sz'=>match oX h id with
  | some cs=>if sz'=sz∧off+len*sz≤cs.length then(match oM ((cs.drop off).take (len*sz)) with | some row=>some (rowsOf len sz row) | none=>none) else none
  | none=>none
 | .vslice id tot off len sz'=>match oQ h id tot with
  | some x=>if sz'=sz∧off+len*sz≤x.2.length then(match oM ((x.2.drop off).take (len*sz)) with | some row=>some (rowsOf len sz row) | none=>none) else none
  | none=>none
 | _=>none
def WQ (sz:Nat) (h:lT):lS→Option (List (List lS))
 | .vslice id tot off len sz'=>match oQ h id tot with
  | some x=>if sz'=sz∧off+len*sz≤x.2.length then some (rowsOf len sz ((x.2.drop off).take (len*sz))) else none
  | none=>none
 | _=>none
def xU (sz:Nat) (h:lT) (x:lS):Option (List (List lS)):=match sR sz h x with
 | some r=>some r
 | none=>WQ sz h x
def nD (sz bytes:Nat) (h:lT) (s x:lS):Option (lS×lT) :=
 match s,sR sz h x with
 | .slice rows (.own id),some new =>
  match h[id]? with
  | some (.front n sz') =>
   if rows.length=n∧(sz'=sz∨n=0∧sz'=0)∧(n+new.length)*bytes≤140737488355328∧n+new.length≤140737488355328
   then(if new.length=0 then some (.slice rows (.own id),h) else some (.slice (rows++new) (.own id),h.set id (.front (n+new.length) sz))) else none
  | _=>none
 | .slice [] .nil,some new =>
  if new.length=0 then some (.slice [] .nil,h) else
  if new.length*bytes≤140737488355328∧new.length≤140737488355328 then some (.slice new (.own h.length),h++[.front new.length sz]) else none
 | _,_=>none
def Bn (t1 sz bytes:Nat) (h:lT) (s x:lS):Option (lS×lT):=none
def C8 (t1 sz by_ zl:Nat) (h:lT) (s x:lS):Option (lS×lT):=none
def oY (sz bytes:Nat) (h:lT) (s x:lS):Option (lS×lT) :=
 match s,xU sz h x with
 | .slice [] (.own id),some new =>
  match h[id]? with
  | some (.front 0 0) =>
   if new.length*bytes≤140737488355328∧new.length≤140737488355328
   then(if new.length=0 then some (.slice [] (.own id),h) else some (.vslice id new.length 0 new.length sz,h.set id (.vec new.length sz new.flatten))) else none
  | _=>none
 | .slice [] .nil,some new =>
  if new.length=0 then some (.slice [] .nil,h) else
  if new.length*bytes≤140737488355328∧new.length≤140737488355328 then some (.vslice h.length new.length 0 new.length sz,h++[.vec new.length sz new.flatten]) else none
 | .vslice id tot 0 n sz',some new =>
  match oQ h id tot with
  | some x =>
   if sz'=sz∧x.1=sz∧(n+new.length)*bytes≤140737488355328∧n+new.length≤140737488355328
   then(if new.length=0 then some (.vslice id tot 0 n sz,h)
    else if n+new.length≤tot then some (.vslice id tot 0 (n+new.length) sz,h.set id (.vec tot sz (putCells x.2 (n*sz) new.flatten)))
    else some (.vslice id (n+new.length) 0 (n+new.length) sz,h.set id (.vec (n+new.length) sz (x.2.take (n*sz)++new.flatten)))) else none
  | none=>none
 | _,_=>none
def sU (h:lT) (v:lS):Option (lS×lT) :=
 match v with
 | .vslice id tot off len sz=>match oQ h id tot with
  | some x=>match oM ((x.2.drop off).take (len*sz)) with
   | some row=>if off+len*sz≤x.2.length then some (.slice (rowsOf len sz row) .no,h.set id .gone) else none
   | none=>none
  | none=>none
 | v=>some (v,h)
def Bq:lT→List lS→Option (List lS×lT)
 | h,[]=>some ([],h)
 | h,c::r=>(sU h c).bind fun y=>(Bq y.2 r).bind fun z=>some (y.1::z.1,z.2)
def HU (h:lT) (v:lS):Option (lS×lT) :=
 match v with
 | .agg cs=>(Bq h cs).bind fun z=>some (.agg z.1,z.2)
 | v=>some (v,h)
def C_ (sz:Nat) (zero:List lS) (h:lT) (x:lS):Option lT :=
 match x with
 | .slice [] _=>some h
 | .vslice id tot off len sz'=>if len=0 then some h else match oQ h id tot with
  | some x=>if sz'=sz∧zero.length=sz∧zero.all lS.mZ∧off+len*sz≤x.2.length then some (h.set id (.vec tot x.1 (putCells x.2 off (ak7 len zero).flatten))) else none
  | none=>none
 | _=>none
def mV (zero:List lS) (places:List (Nat×Nat)) (parts:List (Nat×lS)):Option lS :=
 match parts with
 | []=>some (.agg zero)
 | (i,v)::rest=>match places[i]? with
  | some (off,n)=>if v.o7=false∧v.cells.length=n∧off+n≤zero.length then mV (putCells zero off v.cells) places rest else none
  | none=>none
def rX (len sz:Nat) (zero:List lS) (parts:List (Nat×lS)):Option (List (List lS)) :=
 match mV (ak7 len zero).flatten ((ar9 len).map fun i=>(i*sz,sz)) parts with
 | some (.agg cs)=>match oM cs with
  | some row=>if zero.length=sz∧cs.all lS.mZ then some (rowsOf len sz row) else none
  | none=>none
 | _=>none
def mD (len sz:Nat) (zero:List lS) (parts:List (Nat×lS)) (h:lT):Option (lS×lT) :=
 match rX len sz zero parts with
 | some rows=>some (.slice rows (.own h.length),h++[.front len sz])
 | none=>none
def DJ (len sz:Nat) (zero:List lS) (parts:List (Nat×lS)) (h:lT):Option (lS×lT) :=
 match mV (ak7 len zero).flatten ((ar9 len).map fun i=>(i*sz,sz)) parts with
 | some (.agg cs)=>if zero.length=sz∧cs.all lS.mZ then some (.vslice h.length len 0 len sz,h++[.vec len sz cs]) else none
 | _=>none
def sD (len sz:Nat) (zero:List lS) (parts:List (Nat×lS)) (h:lT):Option (lS×lT) :=
 match rX len sz zero parts with
 | some rows=>some (.vslice h.length len 0 len sz,h++[.vec len sz rows.flatten])
 | none=>DJ len sz zero parts h
def qN (id len sz:Nat) (zero:List lS) (parts:List (Nat×lS)) (h:lT):Option (lS×lT) :=
 match h[id]?,rX len sz zero parts with
 | some .free,some rows=>some (.slice rows (.own id),h.set id (.front len sz))
 | _,_=>none
def rB (sz bytes:Nat) (zero:List lS) (len:lS) (h:lT):Option (lS×lT) :=
 match len with
 | .int _ n=>if 0≤n∧n.toNat*bytes≤140737488355328∧n≤140737488355328
   then some (.mslice h.length 0 n.toNat sz,h++[.cells (ak7 n.toNat zero).flatten]) else none
 | _=>none
def p_ (sz bytes:Nat) (zero:List lS) (len:lS) (h:lT):Option (lS×lT) :=
 match len with
 | .int _ n=>if 0≤n∧n.toNat*bytes≤140737488355328∧n≤140737488355328
   then some (.vslice h.length n.toNat 0 n.toNat sz,h++[.vec n.toNat sz (ak7 n.toNat zero).flatten]) else none
 | _=>none
def QA (h:lT) (d s:lS):Option (lS×lT) :=
 match d,s with
 | .vslice id tot off len 1,.str bs=>match oQ h id tot with
  | some x=>if off+len≤x.2.length∧x.1=1 then some (.int .i64 (min bs.length len:Nat),h.set id (.vec tot 1 (putCells x.2 off ((bs.take len).map fun b=>.int .u8 b.toNat)))) else none
  | none=>none
 | _,_=>none
def bytesOf:List (List lS)→Option (List UInt8)
 | []=>some []
 | [.int .u8 n]::r=>match bytesOf r with
  | some bs=>some (UInt8.ofNat n.toNat::bs)
  | none=>none
 | _=>none
def uI (x:lS):Option lS :=
 match x with
 | .slice rows _=>(bytesOf rows).map .str
 | _=>none
def Cb (h:lT) (x:lS):Option lS :=
 match x with
 | .vslice id tot off len sz=>match sR 1 h (.vslice id tot off len sz) with
  | some rows=>(bytesOf rows).map .str
  | none=>none
 | .mslice id off len sz=>match sR 1 h (.mslice id off len sz) with
  | some rows=>(bytesOf rows).map .str
  | none=>none
 | x=>uI x
def vK:List UInt8→UInt8→Int
 | [],_=>-1
 | b::l,c=>if b == c then 0 else if vK l c == -1 then -1 else vK l c+1
def auY:aaG→List lS→Option lS
 | .indexByte,[.str s,.int .u8 c]=>some (.int .i64 (vK s (UInt8.ofNat c.toNat)))
 | _,_=>none
def rO:TypeDesc→lS→Bool
 | .int k,.int k' _=>k == k'
 | .string,.str _=>true
 | .bool,.bool _=>true
 | _,_=>false
def L5:lS→Bool
 | .int _ _ | .str _ | .bool _=>true
 | _=>false
def Ma (zero:lS) (ok:Bool) (h:lT) (m k:lS):Option lS:=none
def DQ (h:lT) (m k v:lS):Option lT:=none
def DP (h:lT) (m k:lS):Option lT:=none
def E5 (h:lT) (m:lS):Option lT:=none
def Y6 (bld:Nat→Nat→Nat→Bool) (k:aaQ) (args:List lS) (h:lT):Option (nT×lT) :=
 match k with
 | .fn g=>(g args).map fun v=>(.ret v,h)
 | _=>none
def wP (rows:List (List lS)) (x:Int):Option Int :=
 if 0≤x then match rows[x.toNat]? with
  | some (.int .i64 a::_)=>some a
  | _=>none
 else none
def q8 (key:Int→Int) (x y:Int):Bool:=decide (key x<key y) || (decide (key x=key y)&&decide (x≤y))
def oK (le:Int→Int→Bool) (x:Int):List Int→List Int
 | []=>[x]
 | y::r=>bif le x y then x::y::r else y::oK le x r
def Al (le:Int→Int→Bool):List Int→List Int
 | []=>[]
 | x::r=>oK le x (Al le r)
def F3:List lS→Option (List Int)
 | []=>some []
 | .int .i64 n::r=>(F3 r).map (n::·)
 | _::_=>none
def Gx (g:Nat) (args:List lS) (h:lT):Option (nT×lT) :=
 match args with
 | [.slice [] _,.func g' [] _]=>if g'=g then some (.ret (.tuple []),h) else none
 | [.vslice id tot 0 n 1,.func g' [] [.ptr pid po]] =>
  match oQ h id tot,h[pid]? with
  | some x,some (.cells cs)=>match cs[po]?,F3 (x.2.take n) with
   | some (.slice rows _),some xs =>
    if g'=g∧pid≠id∧x.1=1∧0<n∧n≤x.2.length∧n≤1048576∧(rows.all fun r=>r.length == 2)=true∧(xs.all fun x=>(wP rows x).isSome)=true
    then some (.ret (.tuple []),h.set id (.vec tot 1 (putCells x.2 0 ((Al (q8 fun x=>(wP rows x).getD 0) xs).map (.int .i64))))) else none
   | _,_=>none
  | _,_=>none
 | _=>none
end
section
noncomputable section
open Go
def zR (t:Nat):Nat:=1 <<< t
def YX (o:Oper):Nat:=o.op.operands.toList.foldl (fun m x=>match x with | .tmp t=>m ||| zR t | _=>m) 0
def akV (o:Oper):Nat:=match o.dst with | some d=>zR d | none=>0
def ai7 (full:Nat):List Oper→Nat×Nat→Nat×Nat
 | [],a=>a
 | o::r,(u,d)=>ai7 full r (u ||| (YX o &&& (full ^^^ d)),d ||| akV o)
def D6 (id:Nat):Code→Bool
 | .exit j=>j == id
 | .seq a b | .cond _ a b=>D6 id a || D6 id b
 | .block _ c | .loop c | .scope c=>D6 id c
 | _=>false
def leaves:List Nat→Code→Bool
 | ids,.exit j=>!(ids.contains j)
 | ids,.seq a b | ids,.cond _ a b=>leaves ids a || leaves ids b
 | ids,.block id c=>leaves (id::ids) c
 | ids,.loop c=>leaves ids c
 | ids,.scope c=>leaves ids c
 | _,.skip | _,.region _ _ _ | _,.label _=>false
 | _,_=>true
def YV (o:Oper):Bool:=match o.op with | .panic _=>true | _=>false
def uL:Code→Bool
 | .skip=>true
 | .region _ ops _=>!(ops.toList.any YV)
 | .seq a b=>uL a&&uL b
 | .cond _ a b=>uL a || uL b
 | .block id c=>uL c || D6 id c
 | .scope c=>uL c
 | .label _=>true
 | _=>false
def zM (id:Nat):Code→Nat
 | .exit j=>bif j == id then 1 else 0
 | .seq a b=>zM id a+zM id b
 | .cond _ a b=>bif uL a&&uL b then(bif leaves [] a || leaves [] b then 1 else 0) else zM id a+zM id b
 | .block j c=>bif decide (2≤zM j c+bif uL c then 1 else 0) then 1 else zM id c
 | .loop _=>1
 | .scope c=>zM id c
 | _=>0
def ud (full:Nat):Code→Nat×Nat
 | .skip=>(0,0)
 | .region _ ops _=>ai7 full ops.toList (0,0)
 | .seq a b=>let (u,d):=ud full a;let (u',d'):=ud full b;(u ||| (u' &&& (full ^^^ d)),d ||| d')
 | .cond c a b=>let (u,d):=ud full a;let (u',d'):=ud full b
  ((match c with | .tmp t=>zR t | _=>0) ||| u ||| u',(bif uL a then d else full) &&& (bif uL b then d' else full))
 | .block id c=>let (u,d):=ud full c;(u,bif D6 id c then 0 else d)
 | .loop c=>((ud full c).1,full)
 | .scope c=>ud full c
 | .label _=>(0,0)
 | .rangeFunc g _ a b=>((match g with | .tmp t=>zR t | _=>0) ||| (ud full a).1 ||| (ud full b).1,0)
 | _=>(0,full)
def ue (full:Nat) (c:Code):Nat:=(ud full c).1
def tV (L:Nat):Nat→List lS→List lS
 | _,[]=>[]
 | i,v::r=>bif L.testBit i then v::tV L (i+1) r else tV L (i+1) r
def pack (L:Nat) (ρ:List lS):List lS:=tV L 0 ρ
def unpackFrom (L:Nat) (x:List lS):Nat→Nat→Nat→List lS
 | 0,_,_=>[]
 | n+1,i,j=>bif L.testBit i then x.getD j .junk::unpackFrom L x n (i+1) (j+1) else .junk::unpackFrom L x n (i+1) j
def unpack (n L:Nat) (x:List lS):List lS:=unpackFrom L x n 0 0
def Ex.nC (e:Ex) (kn:Option R) (ke:Ex→Option R):Option R :=
 match e with
 | .normal=>kn
 | e=>ke e
def Ex.rQ (e:Ex) (kn:Option R):Option R :=
 match e with
 | .normal=>kn
 | _=>none
def Ex.inBlock (id:Nat) (e:Ex) (kn:Option R) (ke:Ex→Option R):Option R :=
 match e with
 | .normal=>kn
 | .exit j=>bif j == id then kn else ke (.exit j)
 | e=>ke e
def mR (x:Option (nT×lT)) (kv kp:lS→lT→Option R):Option R :=
 x.bind fun r=>match r.1 with
  | .ret v=>kv v r.2
  | .pan v=>kp v r.2
def mC (x:Option (lS×lT)) (k:lS→lT→Option R):Option R:=x.bind fun r=>k r.1 r.2
def mH (v:lS) (t e:Option R):Option R :=
 match v with
 | .bool b=>bif b then t else e
 | _=>none
def qW (P:Program) (t:TypeId):Option Bool :=
 match P.underlying t with
 | some (.struct _) | some (.array _ _)=>some true
 | some _=>some false
 | none=>none
def oO (P:Program) (t:TypeId):Option Nat:=(P.info? t).map (·.size)
def uY (P:Program) (t:TypeId):Option Nat:=(P.info? t).map (·.bytes)
def qM (P:Program) (t:TypeId):Option lS:=(P.info? t).bind fun i=>i.zero.map ofConst
def zV (P:Program) (eqT:TypeId→Option (List Kd)):List Field→Nat→Option (List Kd)
 | [],_=>some []
 | f::r,off=>bif f.name == "_" || f.offset != off then none else match eqT f.type with
  | some ks=>bif oO P f.type == some ks.length&&ks.length != 0 then match zV P eqT r (off+ks.length) with
    | some l=>some (ks++l)
    | none=>none
   else none
  | none=>none
def u4 (P:Program):Nat→TypeId→Option (List Kd)
 | 0,_=>none
 | d+1,t=>match P.underlying t with
  | some .bool=>some [.b]
  | some (.int _)=>some [.i]
  | some .string=>some [.s]
  | some (.struct fs)=>bif P.stoodInHeld t then none else zV P (u4 P d) fs.toList 0
  | _=>none
def DZ (P:Program) (t:TypeId):Option (List Kd) :=
 match u4 P 12 t with
 | some ks=>bif P.eqGuardType P.depth t then none else some ks
 | none=>none
def Ac:Operand→Bool
 | .const (.slice none 0 0)=>true
 | _=>false
def pU (o:Oper):Bool :=
 match o.op with
 | .alloc _ | .box .. | .buildSlice .. | .makeSlice .. | .makeMap .. | .store .. | .mapUpdate .. | .insert .. | .panic _=>true
 | .assign x=>Ac x
 | .call c=>match c.callee with
  | .builtin .len | .builtin .cap | .builtin .min | .builtin .max=>false
  | _=>true
 | _=>false
def tN (o:Oper):Option Operand :=
 match o.op with
 | .load _ a=>some a
 | .lookup _ m _ _=>some m
 | _=>none
def Ij:List Oper→List Nat→List Nat
 | [],acc=>acc
 | o::r,acc=>Ij r (acc++[o.after.toList.foldl (fun m e=>bif Region.binds .any e then m ||| zR e.on ||| acc.getD e.on 0 else m) 0])
def Ke (ops:List Oper):List Nat:=Ij ops []
def af8 (a b:Nat):Bool:=(a &&& b) == a
def Nr (ok:Nat→Bool) (cl:List Nat) (done:Nat):List Nat→Option Nat
 | []=>none
 | i::r=>bif !(done.testBit i)&&af8 (cl.getD i 0) done&&ok i then some i else Nr ok cl done r
structure Item where
 i:Nat
 o:Oper
 locks:List Nat
 rsv:Option Nat:=none
 hid:Bool:=false
def rL (o:Oper):Bool:=o.guard.isNone&&match o.op with | .alloc _ | .box .. | .buildSlice ..=>true | _=>false
def u6 (o:Oper):Bool:=o.guard.isNone&&match o.op with | .call c=>(match c.callee with | .value _=>true | _=>false) | _=>false
def ai8 (cl:List Nat) (i j:Nat):Bool:=(i != j)&&!((cl.getD i 0).testBit j)&&!((cl.getD j 0).testBit i)
def aeQ (f:Oper→Bool) (ops:List Oper) (i:Nat):Bool:=match ops[i]? with | some o=>f o | none=>false
def IB (ops:List Oper) (cl:List Nat):List Nat :=
 (ar9 ops.length).filter fun i=>aeQ rL ops i&&(ar9 ops.length).any fun j=>aeQ pU ops j&&ai8 cl i j
def Hb:List Nat→Nat→Nat→Option Nat
 | [],_,_=>none
 | a::r,i,k=>bif a == i then some k else Hb r i (k+1)
def zZ (ops:List Oper) (cl fl:List Nat):List Nat→List Nat→List Item
 | [],_=>[]
 | i::r,before=>match ops[i]? with
  | some o =>
   {i,o,locks:=bif pU o then before.filter (fun p=>!((cl.getD i 0).testBit p)&&match ops[p]? with | some q=>(tN q).isSome | none=>false) else [],
    rsv:=Hb fl i 0,hid:=u6 o&&fl.any (ai8 cl i) } ::
    zZ ops cl fl r (before++[i])
  | none=>[]
def vP (o:Oper):List Tmp:=o.op.operands.toList.filterMap fun x=>match x with | .tmp t=>some t | _=>none
def ak8 (ops:List Oper) (o:Oper):Option Tmp:=match o.guard with
 | some (j,_)=>(ops[j]?).bind (·.dst)
 | none=>none
def zG (ops:List Oper) (o:Oper):List Tmp:=vP o++(ak8 ops o).toList
def YT (d:Option Tmp) (ts:List Tmp):Bool:=match d with
 | some d=>!(ts.contains d)
 | none=>true
def Mc (ops:List Oper) (x y:Oper):Bool :=
 YT x.dst (zG ops y)&&YT y.dst (zG ops x)&&YT x.dst y.dst.toList
def indep (ops:List Oper) (p it:Item):Bool :=
 Mc ops p.o it.o&&match p.rsv,it.rsv with
 | some a,some b=>a != b
 | some _,none=>bif it.hid then true else !(pU it.o)&&(tN it.o).isNone
 | none,some _=>bif p.hid then p.locks.isEmpty else !(pU p.o)&&p.locks.isEmpty
 | none,none=>bif p.hid then p.locks.isEmpty&&(!it.hid&&(!(pU it.o)&&(tN it.o).isNone))
   else !(pU p.o)&&p.locks.isEmpty&&(!((tN p.o).isSome) || !(pU it.o) || it.locks.contains p.i)
def IX (ops:List Oper) (cl:List Nat) (p it:Item):Bool :=
 (p.i != it.i)&&!((cl.getD p.i 0).testBit it.i)&&((cl.getD it.i 0).testBit p.i || indep ops p it)
def AK (ops:List Oper) (cl:List Nat):List Item→Bool
 | []=>true
 | p::r=>r.all (IX ops cl p)&&AK ops cl r
def Mi (ops:List Oper):Bool :=
 (ops.zipIdx).all fun(o,i)=>o.after.toList.all fun e=>!(Region.binds .any e) || decide (e.on<i)
def Ha (ops:List Oper) (cl fl:List Nat) (n:Nat):Nat→Nat→List Nat
 | 0,_=>[]
 | fuel+1,done =>
  let light (i:Nat):Bool:=match ops[i]? with | some o=>!(pU o) | none=>false
  match Nr light cl done (ar9 n) with
  | some i=>i::Ha ops cl fl n fuel (done ||| zR i)
  | none=>match Nr (fun i=>fl.contains i) cl done (ar9 n) with
   | some i=>i::Ha ops cl fl n fuel (done ||| zR i)
   | none=>match Nr (fun _=>true) cl done (ar9 n) with
    | some i=>i::Ha ops cl fl n fuel (done ||| zR i)
    | none=>[]
def Ua (ops:List Oper):List Nat:=Ha ops (Ke ops) (IB ops (Ke ops)) ops.length ops.length 0
def Az (ops:List Oper):Option (List Item) :=
 let items:=zZ ops (Ke ops) (IB ops (Ke ops)) (Ua ops) []
 bif AK ops (Ke ops) items&&Mi ops&&(items.length == ops.length)&&(ar9 ops.length).all (fun i=>items.any fun it=>it.i == i) then some items else none
def p6 (ops:List Oper):List Item:=ops.zipIdx.map fun(o,i)=>{ i,o,locks:=[] }
def xR:lS→Option Nat
 | .ptr id _=>some id
 | .vptr id _ _=>some id
 | .map id=>some id
 | _=>none
def mX (locks:List Nat) (seen:List lS):List Nat:=locks.filterMap fun j=>xR (seen.getD j .junk)
def uM (h:lT) (id:Nat):lT :=
 match h[id]? with
 | some (.cells _) | some (.map _) | some (.vec _ _ _) | some (.tcells _ _)=>h.set id .gone
 | _=>h
def rR (h:lT) (r:lT) (id:Nat):lT :=
 match h[id]? with
 | some (.cells cs)=>r.set id (.cells cs)
 | some (.vec tot sz cs)=>r.set id (.vec tot sz cs)
 | some (.map es)=>r.set id (.map es)
 | some (.tcells t cs)=>r.set id (.tcells t cs)
 | _=>r
def rZ (ids:List Nat) (h:lT):lT:=ids.foldl uM h
def oD (ids:List Nat) (h h':lT):lT:=ids.foldl (rR h) h'
def yK (t:Nat) (z:lS):lS→Option lS
 | .iface t' w=>some (bif t' == t then .tuple [w,.bool true] else .tuple [z,.bool false])
 | .niliface=>some (.tuple [z,.bool false])
 | _=>none
def xO.agJ (A:xO) (f t:Nat):Bool:=A.vec f || A.vecT f t
def xO.Uu (A:xO) (f t:Nat):Bool:=A.vlit f || A.vlitT f t
structure Cx where
 P:Program
 A:xO
 K:mA
 lp:(List lS×lT→Option R)→List lS×lT→Option R
 n:Nat
 full:Nat
 pan:Bool:=false
 vec:Nat→Bool:=fun _=>false
 frz:Bool:=false
 vlit:Nat→Bool:=fun _=>false
 vmk:Bool:=false
 jt:Bool:=false
 lkp:Bool:=false
 rb:Bool:=false
 frl:Bool:=false
 tb:Bool:=false
 ck:Bool:=false
def rF:lS→Option (Nat×List lS×List lS)
 | .func f first cap=>some (f,first,cap)
 | _=>none
def zQ (P:Program) (t:TypeId) (name:String):Option Nat :=
 match P.info? t with
 | some i=>match i.methods.find? (·.name == name) with
  | some m=>bif m.path.toList.isEmpty then(match m.func with
   | some (f,false)=>match P.underlying t with
    | some (.struct _)=>some f
    | _=>none
   | _=>none) else none
  | none=>none
 | none=>none
def wY (P:Program) (name:String):lS→Option (Nat×lS)
 | .iface t w=>(zQ P t name).map fun f=>(f,w)
 | _=>none
def DT (P:Program):lS→Option lS
 | .meth n t=>(zQ P t n).map fun _=>.meth n t
 | _=>none
def mO:lS→Option lS
 | .ptr id off=>some (.ptr id off)
 | .vptr id tot off=>some (.vptr id tot off)
 | .pptr cs=>some (.pptr cs)
 | .func f a b=>some (.func f a b)
 | _=>none
def wK (id n:Nat) (h:lT) (v:lS):Option (lS×lT) :=
 let vs:=v.cells
 match h[id]? with
 | some .free=>if vs.length=n∧vs.all lS.mZ then some (.ptr id 0,h.set id (.cells vs)) else none
 | _=>none
def pO (A:xO) (f:Nat) (vs:List lS):List lS:=bif A.grow f then vs else vs.map lS.l_
def Mb (x:lS) (h:lT) (kp:lS→lT→Option R):Option R :=
 match x with
 | .iface t w=>kp (.iface t w) h
 | _=>none
def Gb (P:Program) (t:TypeId):Option TypeId :=
 match P.underlying t with
 | some (.slice e)=>some e
 | _=>none
def ak3 (k:aaG) (args:List lS) (h:lT):Option (nT×lT):=(auY k args).map fun v=>(.ret v,h)
def rI (A:xO) (K:mA) (f:Nat) (args:List lS) (h:lT):Option (nT×lT) :=
 match A.ext f with
 | some k=>ak3 k args h
 | none=>K f args h
def SN:Operand→Operand→Bool
 | .tmp a,.tmp b=>a == b
 | .const (.int _ a),.const (.int _ b)=>a == b
 | _,_=>false
def qR (cx:Cx) (b:Builtin) (argTypes:List TypeId) (args:List lS) (h:lT) (kv:lS→lT→Option R):Option R :=
 match b,argTypes,args with
 | .len,[t],[x]=>match cx.P.underlying t with
  | some (.array n _)=>kv (.int .i64 n) h
  | some .string=>(GW x).bind fun w=>kv w h
  | some (.slice _)=>(nK x).bind fun w=>kv w h
  | _=>none
 | .min,_,[x,y]=>(CS x y).bind fun w=>kv w h
 | .max,_,[x,y]=>(DR x y).bind fun w=>kv w h
 | .min,_,x::y::z::r=>(OI x (y::z::r)).bind fun w=>kv w h
 | .max,_,x::y::z::r=>(OG x (y::z::r)).bind fun w=>kv w h
 | .append,[t,t'],[s,x]=>match Gb cx.P t with
  | some e=>bif t != t' then(match cx.P.underlying t',oO cx.P e,uY cx.P e,qM cx.P e with
   | some .string,some sz,some by_,some z=>bif z.o7 then none else mC (C8 (e+1) sz by_ z.cells.length h s x) kv
   | _,_,_,_=>none) else match oO cx.P e,uY cx.P e,qM cx.P e with
   | some sz,some by_,some z=>bif sz == 0 || z.o7 || z.cells.length != sz then none else mC (bif cx.vec t then oY sz by_ h s x else bif cx.tb then Bn (e+1) sz by_ h s x else nD sz by_ h s x) kv
   | _,_,_=>none
  | none=>none
 | .copy,[t,t'],[d,x]=>match Gb cx.P t,cx.P.underlying t' with
  | some e,some .string=>match oO cx.P e,qM cx.P e with
   | some 1,some (.int .u8 _)=>mC (QA h d x) kv
   | _,_=>none
  | _,_=>none
 | .delete,[t,_],[m,k]=>match cx.P.underlying t with
  | some (.map kt _)=>match cx.P.underlying kt with
   | some d=>bif rO d k then(DP h m k).bind fun h'=>kv (.tuple []) h' else none
   | none=>none
  | _=>none
 | .clear,[t],[x]=>match cx.P.underlying t with
  | some (.slice e)=>match oO cx.P e,qM cx.P e with
   | some sz,some z=>bif z.o7 then none else(C_ sz z.cells h x).bind fun h'=>kv (.tuple []) h'
   | _,_=>none
  | some (.map _ _)=>(E5 h x).bind fun h'=>kv (.tuple []) h'
  | _=>none
 | _,_,_=>none
def oG (cx:Cx) (o:Oper) (rsv:Option Nat) (v:Operand→lS) (h:lT) (kv:lS→lT→Option R) (kp:lS→lT→Option R):Option R :=
 match o.op with
 | .move x=>kv (v x) h
 | .assign x=>bif Ac x then kv (.slice [] (.own h.length)) (h++[.front 0 0]) else kv (v x) h
 | .pick c a b=>(nA (v c) (v a) (v b)).bind fun w=>kv w h
 | .alloc t=>match oO cx.P t,qM cx.P t with
  | some n,some z=>match rsv with
   | none=>mC (KE (cx.A.tbt t) t n h z) kv
   | some id=>mC (wK id n h z) kv
  | _,_=>none
 | .box t x=>match oO cx.P t with
  | some n=>match rsv with
   | none=>mC (KE (cx.A.tbt t) t n h (v x)) kv
   | some id=>mC (wK id n h (v x)) kv
  | none=>none
 | .build t parts=>match qM cx.P t,cx.P.underlying t with
  | some z,some (.struct fs) =>
   match fs.toList.mapM (fun f=>(oO cx.P f.type).map fun n=>(f.offset,n)) with
   | some places=>bif z.o7 then none else(mV z.cells places (parts.toList.map fun p=>(p.1,v p.2))).bind fun w=>kv w h
   | none=>none
  | some z,some (.array len e)=>match oO cx.P e with
   | some n=>bif z.o7 then none else(mV z.cells ((ar9 len).map fun i=>(i*n,n)) (parts.toList.map fun p=>(p.1,v p.2))).bind fun w=>kv w h
   | none=>none
  | _,_=>none
 | .buildSlice t len parts=>match Gb cx.P t with
  | some e=>match oO cx.P e,qM cx.P e with
   | some n,some z=>bif n == 0 || z.o7 || decide (len*n > 16777216) then none else match rsv with
    | none=>mC (bif cx.vlit t then sD len n z.cells (parts.toList.map fun p=>(p.1,v p.2)) h else mD len n z.cells (parts.toList.map fun p=>(p.1,v p.2)) h) kv
    | some id=>mC (qN id len n z.cells (parts.toList.map fun p=>(p.1,v p.2)) h) kv
   | _,_=>none
  | none=>none
 | .load t a=>match qW cx.P t,oO cx.P t with
  | some g,some n=>(E7 cx.tb g n h (v a)).bind fun w=>bif cx.rb&&cx.frl then mC (HU h w) kv else kv w h
  | _,_=>none
 | .store t a x=>match oO cx.P t with
  | some n=>bif cx.frz then(sU h (v x)).bind fun y=>(mL n y.2 (v a) y.1).bind fun h'=>kv (.tuple []) h' else(TG cx.tb n h (v a) (v x)).bind fun h'=>kv (.tuple []) h'
  | none=>none
 | .nilCheck x=>match cx.P.underlying o.type with
  | some (.func ..)=>(DT cx.P (v x)).bind fun w=>kv w h
  | _=>(mO (v x)).bind fun w=>kv w h
 | .binOp op t x y _=>match op,cx.P.underlying t with
  | .eql,some (.struct _)=>match DZ cx.P t with
   | some ks=>(qD ks (v x) (v y)).bind fun b=>kv (.bool b) h
   | none=>none
  | .neq,some (.struct _)=>match DZ cx.P t with
   | some ks=>(qD ks (v x) (v y)).bind fun b=>kv (.bool (!b)) h
   | none=>none
  | _,some .bool=>(Oq op (v x) (v y)).bind fun w=>kv w h
  | _,some (.pointer _)=>(WD op (v x) (v y)).bind fun w=>kv w h
  | _,some (.int _) | _,some .string=>(mP op (v x) (v y)).bind fun w=>kv w h
  | _,_=>none
 | .unOp op _ x=>(yD op (v x)).bind fun w=>kv w h
 | .convert s d x=>match cx.P.underlying s,cx.P.underlying d with
  | some (.int _),some (.int k)=>(Bo k (v x)).bind fun w=>kv w h
  | some (.slice e),some .string=>match cx.P.underlying e with
   | some (.int .u8)=>(bif cx.rb then Cb h (v x) else uI (v x)).bind fun w=>kv w h
   | _=>none
  | _,_=>none
 | .makeMap _ none=>kv (.map h.length) (h++[.map []])
 | .makeSlice t l c=>match Gb cx.P t with
  | some e=>match oO cx.P e,uY cx.P e,qM cx.P e with
   | some n,some by_,some z=>bif n == 0 || z.o7 || z.cells.length != n || !(z.cells.all lS.mZ) || !(SN l c) then none else mC (bif cx.vmk then p_ n by_ z.cells (v l) h else rB n by_ z.cells (v l) h) kv
   | _,_,_=>none
  | none=>none
 | .lookup t m k ok=>match cx.P.underlying t with
  | some (.map kt e)=>match cx.P.underlying kt,qM cx.P e with
   | some d,some z=>bif rO d (v k) then(Ma z ok h (v m) (v k)).bind fun w=>kv w h else none
   | _,_=>none
  | _=>none
 | .mapUpdate t m k x=>match cx.P.underlying t with
  | some (.map kt _)=>match cx.P.underlying kt with
   | some d=>bif rO d (v k) then(DQ h (v m) (v k) (v x)).bind fun h'=>kv (.tuple []) h' else none
   | none=>none
  | _=>none
 | .makeInterface t x=>match cx.P.underlying t with
  | some (.interface _)=>none
  | some _=>kv (.iface t (v x)) h
  | none=>none
 | .makeFunc (.func f) first cap=>kv (.func f (first.toList.map v) (cap.toList.map v)) h
 | .makeFunc (.method n) first _=>match first.toList with
  | [x]=>match v x with
   | .iface t _=>kv (.meth n t) h
   | _=>none
  | _=>none
 | .slice t x lo hi none=>match cx.P.underlying t with
  | some .string=>(sO (v x) (lo.map v) (hi.map v)).bind fun w=>kv w h
  | some (.slice e)=>match oO cx.P e with
   | some n=>(pF n (v x) (lo.map v) (hi.map v)).bind fun w=>kv w h
   | none=>none
  | some (.array len e)=>match oO cx.P e with
   | some n=>(E9 len n (v x) (lo.map v) (hi.map v)).bind fun w=>kv w h
   | none=>none
  | _=>none
 | .fieldAddr s x f=>match cx.P.underlying s with
  | some (.struct fs)=>match fs[f]? with
   | some fd=>match oO cx.P fd.type with
    | some (_+1)=>(mG fd.offset (v x)).bind fun w=>kv w h
    | _=>none
   | none=>none
  | _=>none
 | .field t x f=>match cx.P.underlying t with
  | some (.struct fs)=>match fs[f]? with
   | some fd=>match qW cx.P fd.type,oO cx.P fd.type with
    | some g,some n=>(Bp g n fd.offset (v x)).bind fun w=>kv w h
    | _,_=>none
   | none=>none
  | _=>none
 | .indexAddr t x i=>match cx.P.underlying t with
  | some (.slice e)=>match oO cx.P e with
   | some (n+1)=>(mI (n+1) (v x) (v i)).bind fun w=>kv w h
   | _=>none
  | some (.array len e)=>match oO cx.P e with
   | some (n+1)=>(xT len (n+1) (v x) (v i)).bind fun w=>kv w h
   | _=>none
  | _=>none
 | .index t x i=>match cx.P.underlying t with
  | some .string=>(tC (v x) (v i)).bind fun w=>kv w h
  | some (.array len e)=>match qW cx.P e,oO cx.P e with
   | some g,some n=>(E6 g len n (v x) (v i)).bind fun w=>kv w h
   | _,_=>none
  | _=>none
 | .extract x i=>(nO i (v x)).bind fun w=>kv w h
 | .typeAssert x _ t true=>match cx.P.underlying t with
  | some (.interface _)=>none
  | some _=>match qM cx.P t with
   | some z=>(yK t z (v x)).bind fun w=>kv w h
   | none=>none
  | none=>none
 | .panic x=>Mb (v x) h kp
 | .call c=>match c.callee with
  | .builtin b=>qR cx b c.argTypes.toList (c.args.toList.map v) h kv
  | .value f=>(rF (v f)).bind fun g=>mR (rI cx.A cx.K g.1 (pO cx.A g.1 (g.2.1++c.args.toList.map v++g.2.2)) h) kv kp
  | .invoke x name=>(wY cx.P name (v x)).bind fun g=>mR (rI cx.A cx.K g.1 (pO cx.A g.1 (g.2::c.args.toList.map v)) h) kv kp
 | _=>none
def evalOp (cx:Cx) (o:Oper) (rsv:Option Nat) (ρ:List lS) (h:lT) (kv:lS→lT→Option R) (kp:lS→lT→Option R):Option R:=oG cx o rsv (qV cx.A ρ) h kv kp
def p7 (ρ:List lS) (dst:Option Tmp) (v:lS):List lS :=
 match dst with
 | some d=>ρ.set d v
 | none=>ρ
open Classical in
def Wc:List Nat→lT→lT→Option R→Option R
 | [],_,_,x=>x
 | id::r,h,h',x=>if ∀b,h[id]?=some b→h'[id]?=some b then Wc r h h' x else none
def oF (cx:Cx) (o:Oper) (ids:List Nat) (ρ:List lS) (h:lT) (kv:lS→lT→Option R) (kp:lS→lT→Option R):Option R :=
 bif cx.ck then evalOp cx o none ρ h (fun v h'=>Wc ids h h' (kv v h')) kp
 else evalOp cx o none ρ (rZ ids h) (fun v h'=>kv v (oD ids h h')) (fun v h'=>kp v (oD ids h h'))
def mY (kv kp:lS→lT→Option R):R→Option R
 | (.normal,[v],h)=>kv v h
 | (.pan v,_,h)=>kp v h
 | _=>none
def mM (v:lS) (h:lT):Option R:=some (.normal,[v],h)
def Gk (v:lS) (h:lT):Option R:=some (.pan v,[],h)
def mE (want:Bool) (g:lS) (run skip:Option R):Option R :=
 match g with
 | .bool g=>bif want then(bif g then run else skip) else(bif g then skip else run)
 | .tuple []=>skip
 | _=>none
def rY (cx:Cx) (ops:List Oper) (o:Oper) (ids:List Nat) (ρ:List lS) (h:lT) (kv:lS→lT→Option R) (kp:lS→lT→Option R):Option R :=
 match o.guard with
 | none=>oF cx o ids ρ h kv kp
 | some (j,want)=>match (ops[j]?).bind (·.dst) with
  | some d=>(mE want (ρ.getD d .junk) (oF cx o ids ρ h mM Gk) (mM (.tuple []) h)).bind (mY kv kp)
  | none=>none
def seenAt (A:xO) (o:Oper) (ρ:List lS):lS:=match tN o with
 | some a=>qV A ρ a
 | none=>.junk
def BW (m:Nat) (v:lS):lS:=bif v.sM m then v else .junk
def vU (m:Nat):mT→Bool
 | .cells cs=>cs.all (lS.sM m)
 | .vec _ _ cs=>cs.all (lS.sM m)
 | .tcells _ cs=>cs.all (lS.sM m)
 | .map es=>es.all fun e=>e.2.sM m
 | _=>true
def U4 (m:Nat) (h:lT) (kv:lS→lT→Option R):R→Option R
 | (.normal,[v],h')=>bif h'.length == m then kv v (h'++h.drop m) else none
 | _=>none
def vV (cx:Cx) (o:Oper) (m:Nat) (ids:List Nat) (ρ:List lS) (h:lT) (kv:lS→lT→Option R):Option R :=
 bif (h.take m).all (vU m) then(oF cx o ids (ρ.map (BW m)) (h.take m) mM Gk).bind (U4 m h kv) else none
def oV (cx:Cx) (ops:List Oper) (m:Nat) (it:Item) (ids:List Nat) (ρ:List lS) (h:lT) (kv:lS→lT→Option R) (kp:lS→lT→Option R):Option R :=
 match it.rsv with
 | some j=>bif rL it.o then evalOp cx it.o (some (m+j)) ρ h kv (fun _ _=>none) else none
 | none=>bif it.hid then(bif u6 it.o then vV cx it.o m ids ρ h kv else none) else rY cx ops it.o ids ρ h kv kp
def Mq {α:Type}:List lS→(List lS→α)→α
 | [],k=>k []
 | x::xs,k=>Mq xs fun ys=>k (x::ys)
theorem vM {α:Type}:∀{l:List lS}{k:List lS→α},Mq l k=k l
 | [],_=>rfl
 | x::xs,k=>by rw [Mq,vM]
def oZ (cx:Cx) (ops:List Oper) (m:Nat):List Item→List lS→List lS→lT→(List lS→lT→Option R)→(lS→lT→Option R)→Option R
 | [],_,ρ,h,k,_=>k ρ h
 | it::rest,seen,ρ,h,k,kp =>
  oV cx ops m it (mX it.locks seen) ρ h (fun v h'=>Mq (p7 ρ it.o.dst v) fun ρ'=>oZ cx ops m rest (seen.set it.i (seenAt cx.A it.o ρ)) ρ' h' k kp) kp
def Ee:List Item→Nat
 | []=>0
 | it::r=>match it.rsv with | some _=>Ee r+1 | none=>Ee r
def KL:Nat→List mT
 | 0=>[]
 | n+1=>.free::KL n
def Cr (n:Nat) (h:lT):lT :=
 match n with
 | 0=>h
 | n+1=>h++KL (n+1)
def uD (cx:Cx) (ops:List Oper) (draw:Bool) (ρ:List lS) (h:lT) (k:List lS→lT→Option R) (kp:lS→lT→Option R):Option R :=
 match draw with
 | false=>oZ cx ops 0 (p6 ops) [] ρ h k kp
 | true=>match Az ops with
  | some items=>oZ { cx with rb:=false } ops h.length items (ak7 ops.length .junk) ρ (Cr (Ee items) h) k kp
  | none=>none
def Gt (L:Nat) (ρ:List lS) (h:lT):Option R:=some (.normal,pack L ρ,h)
def Gr (L:Nat) (e:Ex) (ρ:List lS) (h:lT):Option R:=some (e,pack L ρ,h)
def avP (b:Bool) (ke:Ex→List lS→lT→Option R) (ρ:List lS):lS→lT→Option R :=
 match b with
 | true=>fun v h=>ke (.pan v) ρ h
 | false=>fun _ _=>none
def Ex.qJ (m:Nat) (h:lT):Ex→Ex
 | .pan v=>.pan (v.qJ m h)
 | e=>e
def mK (m:Nat) (e:Ex) (vs:List lS) (h:lT):Option R:=(o_ m h).map fun h'=>(e.qJ m h,vs.map (·.qJ m h),h')
def Dc (j:Bool) (m L:Nat) (e:Ex) (ρ:List lS) (h:lT):Option R :=
 match j with
 | false=>some (e,pack L ρ,h)
 | true=>mK m e (pack L ρ) h
def endRound (m L:Nat) (e:Ex) (ρ:List lS) (h:lT):Option R:=mK m e (pack L ρ) h
def Bt (k:Bool) (m L:Nat) (e:Ex) (ρ:List lS) (h:lT):Option R :=
 match k with
 | false=>endRound m L e ρ h
 | true=>some (e,pack L ρ,h)
def evalCode (cx:Cx):Code→Nat→List lS→lT→(List lS→lT→Option R)→(Ex→List lS→lT→Option R)→Option R
 | .skip,_,ρ,h,kn,_=>kn ρ h
 | .region _ ops draw,_,ρ,h,kn,ke=>uD cx ops.toList draw ρ h kn (avP cx.pan ke ρ)
 | .seq a b,L,ρ,h,kn,ke=>evalCode cx a (L ||| ue cx.full b) ρ h (fun ρ' h'=>evalCode cx b L ρ' h' kn ke) ke
 | .cond c a b,L,ρ,h,kn,ke =>
  bif uL a&&uL b then
   (mH (qV cx.A ρ c) (evalCode cx a L ρ h (Dc cx.jt h.length L .normal) (Dc cx.jt h.length L)) (evalCode cx b L ρ h (Dc cx.jt h.length L .normal) (Dc cx.jt h.length L))).bind fun r =>
    bif cx.pan || (leaves [] a || leaves [] b) then r.1.nC (kn (unpack cx.n L r.2.1) r.2.2) fun e=>ke e (unpack cx.n L r.2.1) r.2.2
    else r.1.rQ (kn (unpack cx.n L r.2.1) r.2.2)
  else mH (qV cx.A ρ c) (evalCode cx a L ρ h kn ke) (evalCode cx b L ρ h kn ke)
 | .block id c,L,ρ,h,kn,ke =>
  bif decide (2≤zM id c+bif uL c then 1 else 0) then
   (evalCode cx c L ρ h (Dc cx.jt h.length L .normal) (Dc cx.jt h.length L)).bind fun r=>r.1.inBlock id (kn (unpack cx.n L r.2.1) r.2.2) fun e=>ke e (unpack cx.n L r.2.1) r.2.2
  else evalCode cx c L ρ h kn fun e ρ' h'=>e.inBlock id (kn ρ' h') fun e=>ke e ρ' h'
 | .loop c,L,ρ,h,_,ke =>
  (cx.lp (fun s=>evalCode cx c (L ||| ue cx.full c) (unpack cx.n (L ||| ue cx.full c) s.1) s.2 (Bt cx.lkp h.length (L ||| ue cx.full c) .normal) (Bt cx.lkp h.length (L ||| ue cx.full c)))
    (pack (L ||| ue cx.full c) ρ,h)).bind
   fun r=>r.1.nC none fun e=>ke e (unpack cx.n (L ||| ue cx.full c) r.2.1) r.2.2
 | .scope c,L,ρ,h,kn,ke=>evalCode cx c L ρ h kn ke
 | .label _,_,ρ,h,kn,_=>kn ρ h
 | .exit id,_,ρ,h,_,ke=>ke (.exit id) ρ h
 | .ret,_,ρ,h,_,ke=>ke .ret ρ h
 | _,_,_,_,_,_=>none
def Ck:Code→Bool
 | .skip | .exit _ | .ret=>true
 | .region _ ops _=>ops.toList.all fun o=>match o.op with | .defer _=>false | _=>true
 | .seq a b | .cond _ a b=>Ck a&&Ck b
 | .block _ c | .loop c=>Ck c
 | _=>false
def yR (fn:Func):Nat:=fn.results.toList.foldl (fun m r=>match r with | .tmp t=>m ||| zR t | .cell a _=>m ||| zR a) 0
def w6 (P:Program) (ρ:List lS) (h:lT):ResultVar→Option lS
 | .tmp t=>some (ρ.getD t .junk)
 | .cell a t=>match qW P t,oO P t with
  | some g,some n=>mF g n h (ρ.getD a .junk)
  | _,_=>none
def wA (P:Program) (ρ:List lS) (h:lT):List ResultVar→(List lS→Option (nT×lT))→Option (nT×lT)
 | [],k=>k []
 | .tmp t::r,k=>wA P ρ h r fun vs=>k (ρ.getD t .junk::vs)
 | .cell a t::r,k=>match qW P t,oO P t with
  | some g,some n=>(mF g n h (ρ.getD a .junk)).bind fun v=>wA P ρ h r fun vs=>k (v::vs)
  | _,_=>none
def oneOf:List lS→lS
 | [v]=>v
 | vs=>.tuple vs
def nZ (m:Nat) (v:lS) (h:lT):Option (nT×lT):=(o_ m h).map fun h'=>(.ret (v.qJ m h).l_,h')
def au3 (m:Nat) (v:lS) (h:lT):Option (nT×lT):=(o_ m h).map fun h'=>(.ret (v.qJ m h),h')
def au2 (m:Nat) (v:lS) (h:lT):Option (nT×lT):=(sU h v).bind fun y=>nZ m y.1 y.2
def lS.yQ (v:lS):List Nat:=match uS v with | some id=>[id] | none=>[]
def lS.refs:lS→List Nat
 | .agg cs=>cs.flatMap lS.yQ
 | .tuple vs=>vs.flatMap fun v=>match v with | .agg cs=>cs.flatMap lS.yQ | v=>v.yQ
 | v=>v.yQ
def mT.refs:mT→List Nat
 | .cells cs=>cs.flatMap lS.yQ
 | .vec _ _ cs=>cs.flatMap lS.yQ
 | .tcells _ cs=>cs.flatMap lS.yQ
 | .map es=>es.flatMap fun e=>e.2.yQ
 | _=>[]
def lS.Ak (f:Nat→Nat):lS→lS
 | .ptr id o=>.ptr (f id) o
 | .mslice id a b c=>.mslice (f id) a b c
 | .vslice id t a b c=>.vslice (f id) t a b c
 | .vptr id t o=>.vptr (f id) t o
 | .map id=>.map (f id)
 | .slice rows (.own id)=>.slice rows (.own (f id))
 | v=>v
def lS.vH (f:Nat→Nat):lS→lS
 | .agg cs=>.agg (cs.map (lS.Ak f))
 | .tuple vs=>.tuple (vs.map fun v=>match v with | .agg cs=>.agg (cs.map (lS.Ak f)) | v=>v.Ak f)
 | v=>v.Ak f
def lS.JV (p:Nat→Bool):lS→Bool
 | .agg _=>false
 | .tuple _=>false
 | .iface _ _=>false
 | .func _ first cap=>first.isEmpty&&cap.isEmpty
 | v=>match uS v with | some r=>p r | none=>true
def lS.ok (p:Nat→Bool):lS→Bool
 | .agg cs=>cs.all (lS.JV p)
 | .tuple vs=>vs.all fun v=>match v with | .agg cs=>cs.all (lS.JV p) | v=>v.JV p
 | v=>v.JV p
def mT.vH (f:Nat→Nat):mT→mT
 | .cells cs=>.cells (cs.map (lS.Ak f))
 | .vec t s cs=>.vec t s (cs.map (lS.Ak f))
 | .tcells t cs=>.tcells t (cs.map (lS.Ak f))
 | .map es=>.map (es.map fun e=>(e.1,e.2.Ak f))
 | b=>b
def mT.ok (p:Nat→Bool):mT→Bool
 | .cells cs=>cs.all (lS.JV p)
 | .vec _ _ cs=>cs.all (lS.JV p)
 | .tcells _ cs=>cs.all (lS.JV p)
 | .map es=>es.all fun e=>e.2.JV p
 | _=>true
def nT.vH (f:Nat→Nat):nT→nT
 | .ret v=>.ret (v.vH f)
 | .pan v=>.pan (v.vH f)
def nT.ok (p:Nat→Bool):nT→Bool
 | .ret v=>v.ok p
 | .pan v=>v.ok p
def AF:List Nat→Nat→Nat
 | [],_=>0
 | a::r,i=>bif a == i then 0 else AF r i+1
def tG:List Nat→Bool
 | []=>true
 | a::r=>!(r.contains a)&&tG r
def LW (acc:List Nat):List Nat→List Nat
 | []=>acc
 | i::r=>LW (bif acc.contains i then acc else acc++[i]) r
def Mh (h:lT):Nat→List Nat→List Nat
 | 0,acc=>acc
 | n+1,acc=>Mh h n (LW acc (acc.flatMap fun i=>match h[i]? with | some b=>b.refs | none=>[]))
def reach (h:lT) (args:List lS):List Nat:=Mh h 3 (LW [] (args.flatMap lS.refs))
def yO:List Nat→lT→lT→lT
 | i::is,b::bs,h=>yO is bs (h.set i b)
 | _,_,h=>h
def Lh (ids:List Nat) (args:List lS) (h:lT):Bool :=
 args.all (lS.ok fun i=>ids.contains i)&&(tG ids&&ids.all fun i=>match h[i]? with | some b=>b.ok fun i=>ids.contains i | none=>false)
def yI (ids:List Nat) (h:lT):lT:=ids.map fun i=>(h.getD i .free).vH (AF ids)
def Hi (ids:List Nat) (h:lT) (r:nT×lT):Option (nT×lT) :=
 bif r.2.length == ids.length&&(r.2.all (mT.ok fun j=>decide (j<ids.length))&&r.1.ok fun j=>decide (j<ids.length))
 then some (r.1.vH fun j=>ids.getD j 0,yO ids (r.2.map (mT.vH fun j=>ids.getD j 0)) h) else none
def Zr (K:mA) (ids:List Nat):mA:=fun f args h =>
 bif Lh ids args h then(K f (args.map (lS.vH (AF ids))) (yI ids h)).bind (Hi ids h) else none
def ap2 (K:mA):mA:=fun f args h=>Zr K (reach h args) f args h
def IV (m:Nat) (v:lS) (h:lT):List Nat:=LW (ar9 m) (reach h [v])
def Um (ids:List Nat) (h:lT):Bool:=tG ids&&ids.all fun i=>match h[i]? with | some b=>b.ok fun i=>ids.contains i | none=>false
def Xh (ids:List Nat) (v:lS) (h:lT):Option (nT×lT):=bif v.ok (fun i=>ids.contains i)&&Um ids h then some (.ret (v.vH (AF ids)),yI ids h) else none
def De (m:Nat) (v:lS) (h:lT):Option (nT×lT):=Xh (IV m v h) v h
def finish (A:xO) (f:Nat) (m:Nat) (v:lS) (h:lT):Option (nT×lT) :=
 bif A.esc f then some (.ret v,h) else bif A.grow f then au3 m v h else bif A.frr f then au2 m v h else bif A.out f then De m v h else nZ m v h
def Ex.oA (e:Ex) (x:Option (nT×lT)):Option (nT×lT) :=
 match e with
 | .normal=>x
 | .ret=>x
 | _=>none
def Ex.QO (e:Ex) (x:Option (nT×lT)) (xp:lS→Option (nT×lT)):Option (nT×lT) :=
 match e with
 | .normal=>x
 | .ret=>x
 | .pan v=>xp v
 | _=>none
def acO (m:Nat) (v:lS) (h:lT):Option (nT×lT):=(o_ m h).map fun h'=>(.pan (v.qJ m h).l_,h')
def KG (P:Program) (A:xO) (f:Nat) (fn:Func) (m:Nat) (e:Ex) (ρ:List lS) (h:lT):Option (nT×lT) :=
 bif A.pan f then e.QO (wA P ρ h fn.results.toList fun vs=>finish A f m (oneOf vs) h) fun v=>bif A.kp f then some (.pan v,h) else acO m v h
 else e.oA (wA P ρ h fn.results.toList fun vs=>finish A f m (oneOf vs) h)
def Ch (o:Oper):Bool:=o.guard.isNone&&match o.op with | .call c=>(match c.callee with | .builtin .recover=>true | _=>false) | _=>false
def TK (o:Oper):Option Operand :=
 match o.guard,o.op with
 | none,.defer c=>match c.callee with
  | .value f=>bif c.args.isEmpty&&o.dst.isNone then some f else none
  | _=>none
 | _,_=>none
def z7 (ops:List Oper):Option Operand:=(ops.getLast?).bind TK
def BI (m:Nat):Code→Bool
 | .region _ ops _=>ops.toList.all fun o=>match o.dst with | some d=>!(m.testBit d) | none=>true
 | .seq a b | .cond _ a b=>BI m a&&BI m b
 | .block _ c | .loop c=>BI m c
 | .skip | .exit _ | .ret=>true
 | _=>false
def Ex.QN (e:Ex) (xn:Option R) (xp:lS→Option R):Option R :=
 match e with
 | .normal=>xn
 | .ret=>xn
 | .pan v=>xp v
 | _=>none
def Ex.W_ (e:Ex) (x:Option lT):Option lT :=
 match e with
 | .normal=>x
 | .ret=>x
 | _=>none
def t_ (cx:Cx) (g:Nat) (caps:List lS) (pv:Option lS) (h:lT):Option lT :=
 match cx.P.funcs[g]? with
 | some fn=>match fn.body with
  | some (.seq (.region _ ops false) c)=>match ops.toList with
   | o::_=>bif Ch o&&decide (caps.length≤fn.ntmps)&&fn.results.isEmpty&&!(fn.name == "runtime.NumGoroutine") then
     (oZ { cx with n:=fn.ntmps,full:=2^fn.ntmps-1,pan:=false } ops.toList 0 (p6 ops.toList).tail []
      (p7 (caps++ak7 (fn.ntmps-caps.length) (.tuple [])) o.dst (pv.getD .niliface)) h
      (fun ρ' h'=>evalCode { cx with n:=fn.ntmps,full:=2^fn.ntmps-1,pan:=false } c 0 ρ' h' (Gt 0) (Gr 0)) (fun _ _=>none)).bind
      fun r=>r.1.W_ (o_ h.length r.2.2)
    else none
   | []=>none
  | _=>none
 | none=>none
def xX (cx:Cx) (b:Code) (L:Nat) (fv:lS) (ρ:List lS) (h:lT):Option R :=
 bif BI L b then(rF fv).bind fun g =>
  (evalCode { cx with pan:=true } b L ρ h (Gt L) (Gr L)).bind fun r =>
   r.1.QN ((t_ cx g.1 (g.2.1++g.2.2) none r.2.2).map fun h2=>(.ret,r.2.1,h2)) fun v=>(t_ cx g.1 (g.2.1++g.2.2) (some v) r.2.2).map fun h2=>(.ret,pack L ρ,h2)
 else none
def Ex.T7 (e:Ex) (x:Option R):Option R :=
 match e with
 | .ret=>x
 | _=>none
def KY (L:Nat) (e:Ex) (ρ:List lS) (h:lT):Option R:=e.T7 (some (.ret,pack L ρ,h))
def rG (cx:Cx):Code→Nat→List lS→lT→Option R
 | .seq (.region id ops false) b,L,ρ,h=>match z7 ops.toList with
  | some f=>oZ cx ops.toList 0 (p6 ops.toList).dropLast [] ρ h (fun ρ' h'=>xX cx b L (qV cx.A ρ' f) ρ' h') (fun _ _=>none)
  | none=>evalCode cx (.region id ops false) (L ||| ue cx.full b) ρ h (fun ρ' h'=>rG cx b L ρ' h') (KY L)
 | .seq a b,L,ρ,h=>evalCode cx a (L ||| ue cx.full b) ρ h (fun ρ' h'=>rG cx b L ρ' h') (KY L)
 | _,_,_,_=>none
def Bv (cx:Cx) (d:Bool) (c:Code) (L:Nat) (ρ:List lS) (h:lT):Option R :=
 match d with
 | true=>rG { cx with pan:=false } c L ρ h
 | false=>evalCode cx c L ρ h (Gt L) (Gr L)
def Mm (P:Program) (A:xO) (K:mA) (lp:(List lS×lT→Option R)→List lS×lT→Option R) (f:Nat) (fn:Func) (c:Code) (args:List lS) (h:lT):Option (nT×lT) :=
 (Bv { P,A,K,lp,n:=fn.ntmps,full:=2^fn.ntmps-1,pan:=A.pan f,vec:=A.agJ f,frz:=A.frz f,vlit:=A.Uu f,vmk:=A.vmk f,jt:=A.jt f,lkp:=A.lkp f,rb:=A.rb f,frl:=A.frl f,tb:=A.tb f,ck:=A.ck f } (A.dfr f) c (yR fn)
   (args++ak7 (fn.ntmps-args.length) (.tuple [])) h).bind
  fun r=>KG P A f fn h.length r.1 (unpack fn.ntmps (yR fn) r.2.1) r.2.2
def qT:Nat→(List lS×lT→Option R)→List lS×lT→Option R
 | 0,_,_=>none
 | n+1,F,s=>(F s).bind fun r=>r.1.nC (qT n F r.2) fun e=>some (e,r.2)
def tW (out:Bool) (h:lT) (r:nT×lT):Option (nT×lT):=match r.2 with
 | []=>some (r.1,h)
 | _=>bif out&&(r.2.all (mT.ok fun j=>decide (j<r.2.length))&&r.1.ok fun j=>decide (j<r.2.length)) then some (r.1.vH fun j=>h.length+j,h++r.2.map (mT.vH fun j=>h.length+j)) else none
def mW (A:xO) (K:mA):mA:=fun f args h =>
 bif A.pure f then(bif args.all (lS.sM 0) then(K f args []).bind (tW (A.out f) h) else none) else bif A.sub f then ap2 K f args h else K f args h
abbrev V_:=(List lS×lT→Option R)→List lS×lT→Option R
def p9 (P:Program) (A:xO) (lp:V_) (K:mA) (f:Nat) (args:List lS) (h:lT):Option (nT×lT) :=
 match A.prm f with
 | some k=>Y6 A.bld k args h
 | none=>match A.srf f with
 | some g=>Gx g args h
 | none=>match P.funcs[f]? with
  | some fn=>match fn.body with
   | some c=>bif decide (args.length≤fn.ntmps)&&!(fn.name == "runtime.NumGoroutine") then(Mm P A (mW A K) lp f fn c args h) else none
   | none=>none
  | none=>none
def Od (P:Program) (A:xO) (lp:V_):Nat→mA
 | 0,_,_,_=>none
 | n+1,f,args,h=>p9 P A lp (Od P A lp n) f args h
end
end
section
open Go Go.RowKit
structure Gh where
 H:Nat→Nat→Option Value
 nY:Nat→Nat
 cur:Nat→Value
inductive pS (H:Nat→Nat→Option Value):lS→Value→Prop
 | junk (V:Value):pS H .junk V
 | bool (b:Bool):pS H (.bool b) (.bool b)
 | int (k:IntKind) (n:Int):pS H (.int k n) (.int k n)
 | str (s:List UInt8):pS H (.str s) (.string ⟨s.toArray⟩)
 | agg (cs:List lS) (C:Array Value) (hl:cs.length=C.size) (h:∀(i:Nat) (v:lS),cs[i]?=some v→pS H v (C.getD i undef)):pS H (.agg cs) (.agg C)
 | tuple (cs:List lS) (C:Array Value) (hl:cs.length=C.size) (h:∀(i:Nat) (v:lS),cs[i]?=some v→pS H v (C.getD i undef)):pS H (.tuple cs) (.tuple C)
 | slice0 (a:Option Addr) (cap:Nat):pS H (.slice [] .no) (.slice a 0 cap)
 | slice (rows:List (List lS)) (b off cap sz:Nat) (V:Nat→Value) (hr:∀r∈rows,r.length=sz) (hc:rows.length≤cap)
   (hH:∀(i j:Nat) (row:List lS) (v:lS),rows[i]?=some row→row[j]?=some v→H b (off+(i*sz+j))=some (V (i*sz+j)))
   (hk:∀(i j:Nat) (row:List lS) (v:lS),rows[i]?=some row→row[j]?=some v→v.mZ=true)
   (hV:∀(i j:Nat) (row:List lS) (v:lS),rows[i]?=some row→row[j]?=some v→pS H v (V (i*sz+j))) :
   pS H (.slice rows .no) (.slice (some ⟨b,off,none⟩) rows.length cap)
 | pptr (cs:List lS) (b off:Nat) (V:Nat→Value)
   (hH:∀(j:Nat) v,cs[j]?=some v→H b (off+j)=some (V j))
   (hk:∀(j:Nat) (v:lS),cs[j]?=some v→v.mZ=true)
   (hV:∀(j:Nat) v,cs[j]?=some v→pS H v (V j)):pS H (.pptr cs) (.pointer (some ⟨b,off,none⟩))
 | nilptr:pS H .nilptr (.pointer none)
 | nilmap:pS H .nilmap (.map none)
 | nilfunc:pS H .nilfunc .nilFunc
 | meth (n:String) (t:Nat) (W:Value) (C:Array Value):pS H (.meth n t) (.func (.method n) #[.iface t W] C)
 | niliface:pS H .niliface .nilIface
 | func (f:Nat):pS H (.func f [] []) (.func (.func f) #[] #[])
 | iface (t:Nat) (v:lS) (V:Value) (h:pS H v V):pS H (.iface t v) (.iface t V)
theorem pS.mono {H H':Nat→Nat→Option Value}(hh:∀b k v,H b k=some v→H' b k=some v) {v:lS}{V:Value}(h:pS H v V):pS H' v V:=by
 induction h with
 | junk V=>exact .junk V
 | bool b=>exact .bool b
 | int k n=>exact .int k n
 | str s=>exact .str s
 | agg cs C hl _ ih=>exact .agg cs C hl ih
 | tuple cs C hl _ ih=>exact .tuple cs C hl ih
 | slice0 a cap=>exact .slice0 a cap
 | slice rows b off cap sz V hr hc hH hk _ ih=>exact .slice rows b off cap sz V hr hc (fun i j row v h1 h2=>hh _ _ _ (hH i j row v h1 h2)) hk ih
 | pptr cs b off V hH hk _ ih=>exact .pptr cs b off V (fun j v h1=>hh _ _ _ (hH j v h1)) hk ih
 | nilptr=>exact .nilptr
 | nilmap=>exact .nilmap
 | nilfunc=>exact .nilfunc
 | meth n t W C=>exact .meth n t W C
 | niliface=>exact .niliface
 | func f=>exact .func f
 | iface t v V _ ih=>exact .iface t v V ih
def live (h:lT) (id:Nat):Prop:=∃b,h[id]?=some b∧b≠.free
def tH (h:lT) (id:Nat):Prop:=∃b,h[id]?=some b∧b≠.free∧∀n sz t,b≠.front n sz t
def wG:Value→Nat
 | .slice _ n _=>n
 | _=>0
inductive mJ (G:Gh) (h:lT):lS→Value→Prop
 | p (v:lS) (V:Value) (hp:pS G.H v V):mJ G h v V
 | agg (cs:List lS) (C:Array Value) (hl:cs.length=C.size) (hh:∀(i:Nat) (v:lS),cs[i]?=some v→mJ G h v (C.getD i undef)):mJ G h (.agg cs) (.agg C)
 | tuple (cs:List lS) (C:Array Value) (hl:cs.length=C.size) (hh:∀(i:Nat) (v:lS),cs[i]?=some v→mJ G h v (C.getD i undef)):mJ G h (.tuple cs) (.tuple C)
 | nil:mJ G h (.slice [] .nil) (.slice none 0 0)
 | own (rows:List (List lS)) (id n sz:Nat) (V:Value) (hp:pS G.H (.slice rows .no) V) {t:Nat}(hf:h[id]?=some (.front n sz t)) (hn:rows.length≤n) (hr:∀r∈rows,r.length=sz) (hc:rows.length=n→V=G.cur id):mJ G h (.slice rows (.own id)) V
 | ownv {rows:List (List lS)}(id:Nat) (V:Value) (hp:pS G.H (.slice rows .no) V) (hb:tH h id):mJ G h (.slice rows (.own id)) V
 | vslice (id tot off len sz b cap:Nat) (hl:tH h id) (ht:tot≤wG (G.cur id)) (hc:len≤cap)
   (hv:tot=wG (G.cur id)→∃l cap0,G.cur id=.slice (some ⟨b,0,none⟩) tot cap0∧off=l*sz∧l+len≤tot∧cap=cap0-l):mJ G h (.vslice id tot off len sz) (.slice (some ⟨b,off,none⟩) len cap)
 | vptr (id tot off b:Nat) (hl:tH h id) (ht:tot≤wG (G.cur id)) (hv:tot=wG (G.cur id)→∃cap0,G.cur id=.slice (some ⟨b,0,none⟩) tot cap0):mJ G h (.vptr id tot off) (.pointer (some ⟨b,off,none⟩))
 | ptr (id off:Nat) (hl:live h id):mJ G h (.ptr id off) (.pointer (some ⟨G.nY id,off,none⟩))
 | mslice (id off len sz cap:Nat) (hl:live h id) (hc:len≤cap):mJ G h (.mslice id off len sz) (.slice (some ⟨G.nY id,off,none⟩) len cap)
 | mslice0 (id off sz cap:Nat) (a:Option Addr):mJ G h (.mslice id off 0 sz) (.slice a 0 cap)
 | map (id:Nat) (hl:live h id):mJ G h (.map id) (.map (some (G.nY id)))
 | func (f:Nat) (first cap:List lS) (F C:Array Value) (hlf:first.length=F.size) (hlc:cap.length=C.size)
   (hf:∀(i:Nat) (v:lS),first[i]?=some v→mJ G h v (F.getD i undef)) (hc:∀(i:Nat) (v:lS),cap[i]?=some v→mJ G h v (C.getD i undef)):mJ G h (.func f first cap) (.func (.func f) F C)
 | iface (t:Nat) (v:lS) (V:Value) (hh:mJ G h v V):mJ G h (.iface t v) (.iface t V)
def owner (G:Gh) (h:lT) (id:Nat):Option Nat :=
 match h[id]? with
 | some (.cells _) | some (.map _) | some (.tcells _ _)=>some (G.nY id)
 | some (.front _ _ _) | some (.vec _ _ _)=>(G.cur id).ownBlock
 | _=>none
def wU (G:Gh) (h:lT) (w:World) (id:Nat):mT→Prop
 | .free=>True
 | .gone=>True
 | .cells cs=>∃C e,w.heap[G.nY id]?=some (.cells C e (0,0))∧C.size=cs.length∧(∀k,G.H (G.nY id) k=none) ∧
   ∀(i:Nat) (v:lS),cs[i]?=some v→v.mZ=true∧mJ G h v (C.getD i undef)
 | .tcells e cs=>∃C,w.heap[G.nY id]?=some (.cells C e (0,0))∧C.size=cs.length∧(∀k,G.H (G.nY id) k=none) ∧
   ∀(i:Nat) (v:lS),cs[i]?=some v→v.mZ=true∧mJ G h v (C.getD i undef)
 | .front n sz t=>(n=0∧G.cur id=.slice none 0 0)∨∃b cap C e,G.cur id=.slice (some ⟨b,0,none⟩) n cap∧w.heap[b]?=some (.cells C e (0,0)) ∧
   n≤cap∧cap≤maxLen∧C.size=cap*sz∧0<sz∧(∀k,n*sz≤k→G.H b k=none)∧(t≠0→e+1=t)
 | .vec tot sz cs=>∃b cap C e,G.cur id=.slice (some ⟨b,0,none⟩) tot cap∧w.heap[b]?=some (.cells C e (0,0))∧tot≤cap∧cap≤maxLen∧C.size=cap*sz∧0<sz∧cs.length=tot*sz∧(∀k,G.H b k=none) ∧
   ∀(i:Nat) (v:lS),cs[i]?=some v→v.mZ=true∧mJ G h v (C.getD i undef)
 | .map es=>∃E clock,w.heap[G.nY id]?=some (.map E clock)∧E.size=es.length∧(∀k,G.H (G.nY id) k=none) ∧
   (∀(i:Nat) (kv:lS×lS),es[i]?=some kv→∃m,E[i]?=some m∧L5 kv.1=true∧pS G.H kv.1 m.key∧mJ G h kv.2 m.val)∧MapKept.Stamped E clock
structure Inv (G:Gh) (h:lT) (w:World):Prop where
 ok:∀b k v,G.H b k=some v→w.cell? ⟨b,k,none⟩=some v
 nY:∀id bl,h[id]?=some bl→wU G h w id bl
 inj:∀i j b,owner G h i=some b→owner G h j=some b→i=j
def Kind (G G':Gh) (id:Nat):mT→mT→Prop
 | .free,_=>True
 | .gone,.gone=>G'.nY id=G.nY id∧G'.cur id=G.cur id
 | .cells a,.cells b=>a.length=b.length∧G'.nY id=G.nY id∧G'.cur id=G.cur id
 | .map _,.map _=>G'.nY id=G.nY id∧G'.cur id=G.cur id
 | .tcells t a,.tcells t' b=>t'=t∧a.length=b.length∧G'.nY id=G.nY id∧G'.cur id=G.cur id
 | .front n sz _,.front n' sz' _=>n≤n'∧(n=n'→G'.cur id=G.cur id)∧G'.nY id=G.nY id∧(0<n→sz'=sz)
 | .front n _ _,.vec _ _ _=>n=0∧G'.nY id=G.nY id
 | .front _ _ _,.gone=>G'.nY id=G.nY id
 | .vec _ _ _,.vec _ _ _=>G'.nY id=G.nY id∧wG (G.cur id)≤wG (G'.cur id)∧(wG (G.cur id)=wG (G'.cur id)→G'.cur id=G.cur id)
 | .vec _ _ _,.gone=>G'.nY id=G.nY id∧wG (G.cur id)≤wG (G'.cur id)∧(wG (G.cur id)=wG (G'.cur id)→G'.cur id=G.cur id)
 | _,_=>False
structure Ext (G:Gh) (h:lT) (w:World) (G':Gh) (h':lT) (w':World):Prop where
 os:w'.os=w.os
 tape:w'.tape=w.tape
 output:w'.output=w.output
 size:w.heap.size≤w'.heap.size
 frame:∀b,b<w.heap.size→(∀id,owner G h id≠some b)→w'.heap[b]?=w.heap[b]?∧∀k,G'.H b k=G.H b k
 hmono:∀b k v,G.H b k=some v→G'.H b k=some v
 own:∀id b,owner G' h' id=some b→b<w.heap.size→owner G h id=some b
 kinds:∀id bl,h[id]?=some bl→∃bl',h'[id]?=some bl'∧Kind G G' id bl bl'
theorem Kind.refl (G:Gh) (id:Nat) (b:mT):Kind G G id b b:=by cases b <;> simp [Kind]
theorem Kind.trans {G G' G'':Gh}{id:Nat}{a b c:mT}(h:Kind G G' id a b) (h':Kind G' G'' id b c):Kind G G'' id a c:=by
 cases a <;> cases b <;> cases c <;> simp only [Kind] at h h' ⊢ <;> first
  | exact h.elim
  | exact h'.elim
  | trivial
  | exact⟨h'.1.trans h.1,h'.2.trans h.2⟩
  | exact⟨h.1.trans h'.1,h'.2.1.trans h.2.1,h'.2.2.trans h.2.2⟩
  | exact⟨by omega,by omega,h'.2.2.1.trans h.2.2.1,fun e=>by rw [h'.2.2.2 (by omega),h.2.2.2 e]⟩
  | exact⟨by omega,fun e=>by rw [h'.2.1 (by omega),h.2.1 (by omega)],h'.2.2.1.trans h.2.2.1,fun e=>by rw [h'.2.2.2 (by omega),h.2.2.2 e]⟩
  | exact⟨h'.1.trans h.1,by omega,fun e=>by rw [h'.2.2 (by omega),h.2.2 (by omega)]⟩
  | exact⟨h'.1.trans h.1,by have:=h'.2;rw [h'.2];exact h.2.1,fun e=>by rw [h'.2] at e ⊢;exact h.2.2 e⟩
  | exact⟨h.1,h'.1.trans h.2⟩
  | exact⟨by omega,h'.2.trans h.2.2.1⟩
  | exact h'.trans h.2.2.1
  | exact h'.1.trans h
  | exact h'.1.trans h.2
  | exact⟨h'.1.trans h.1,h.2.1.trans h'.2.1,h'.2.2.1.trans h.2.2.1,h'.2.2.2.trans h.2.2.2⟩
  | skip
theorem Ext.refl (G:Gh) (h:lT) (w:World):Ext G h w G h w :=
 ⟨rfl,rfl,rfl,ak5 _,fun _ _ _=>⟨rfl,fun _=>rfl⟩,fun _ _ _ h=>h,fun _ _ h _=>h,fun id bl hb=>⟨bl,hb,Kind.refl G id bl⟩⟩
theorem Ext.trans {G G' G'':Gh}{h h' h'':lT}{w w' w'':World}(a:Ext G h w G' h' w') (b:Ext G' h' w' G'' h'' w''):Ext G h w G'' h'' w'' where
 os:=b.os.trans a.os
 tape:=b.tape.trans a.tape
 output:=b.output.trans a.output
 size:=Nat.le_trans a.size b.size
 frame:=fun c hc hn=>by
  obtain⟨h1,h2⟩:=a.frame c hc hn
  obtain⟨h3,h4⟩:=b.frame c (Nat.lt_of_lt_of_le hc a.size) (fun id ho=>hn id (a.own id c ho hc))
  exact⟨h3.trans h1,fun k=>(h4 k).trans (h2 k)⟩
 hmono:=fun c k v hv=>b.hmono c k v (a.hmono c k v hv)
 own:=fun id c ho hc=>a.own id c (b.own id c ho (Nat.lt_of_lt_of_le hc a.size)) hc
 kinds:=fun id bl hb=>by
  obtain⟨b1,h1,k1⟩:=a.kinds id bl hb
  obtain⟨b2,h2,k2⟩:=b.kinds id b1 h1
  exact⟨b2,h2,k1.trans k2⟩
structure CG (G:Gh) (h:lT) (G':Gh) (h':lT):Prop where
 hmono:∀b k v,G.H b k=some v→G'.H b k=some v
 kinds:∀id bl,h[id]?=some bl→∃bl',h'[id]?=some bl'∧Kind G G' id bl bl'
theorem Ext.toMono {G G':Gh}{h h':lT}{w w':World}(a:Ext G h w G' h' w'):CG G h G' h':=⟨a.hmono,a.kinds⟩
theorem Kind.nY {G G':Gh}{id:Nat}{a b:mT}(h:Kind G G' id a b) (ha:a≠.free):b≠.free∧G'.nY id=G.nY id:=by
 cases a <;> cases b <;> simp_all [Kind]
theorem Kind.nf {G G':Gh}{id:Nat}{a b:mT}(h:Kind G G' id a b) (ha:a≠.free) (hn:∀n sz t,a≠.front n sz t):∀n sz t,b≠.front n sz t:=by
 cases a <;> cases b <;> simp_all [Kind]
theorem Kind.cur {G G':Gh}{id:Nat}{a b:mT}(h:Kind G G' id a b) (ha:a≠.free) (hn:∀n sz t,a≠.front n sz t):wG (G.cur id)≤wG (G'.cur id)∧(wG (G.cur id)=wG (G'.cur id)→G'.cur id=G.cur id):=by
 cases a <;> cases b <;> simp_all [Kind]
theorem CG.live {G G':Gh}{h h':lT}(m:CG G h G' h') {id:Nat}(hl:live h id):live h' id∧G'.nY id=G.nY id:=by
 obtain⟨bl,h1,h2⟩:=hl
 obtain⟨bl',h3,h4⟩:=m.kinds id bl h1
 exact⟨⟨bl',h3,(h4.nY h2).1⟩,(h4.nY h2).2⟩
theorem CG.nf {G G':Gh}{h h':lT}(m:CG G h G' h') {id:Nat}(hl:tH h id):tH h' id∧wG (G.cur id)≤wG (G'.cur id)∧(wG (G.cur id)=wG (G'.cur id)→G'.cur id=G.cur id):=by
 obtain⟨bl,h1,h2,h3⟩:=hl
 obtain⟨bl',h4,h5⟩:=m.kinds id bl h1
 exact⟨⟨bl',h4,(h5.nY h2).1,h5.nf h2 h3⟩,h5.cur h2 h3⟩
theorem mJ.mono {G G':Gh}{h h':lT}(m:CG G h G' h') {v:lS}{V:Value}(r:mJ G h v V):mJ G' h' v V:=by
 induction r with
 | p v V hp=>exact .p v V (hp.mono m.hmono)
 | agg cs C hl _ ih=>exact .agg cs C hl ih
 | tuple cs C hl _ ih=>exact .tuple cs C hl ih
 | nil=>exact .nil
 | own rows id n sz V hp hf hn hr hc =>
  obtain⟨bl',h3,h4⟩:=m.kinds id _ hf
  cases bl' with
  | front n' sz' t' =>
   obtain⟨h6,h7,_,h8⟩:=h4
   exact .own rows id n' sz' V (hp.mono m.hmono) h3 (by omega) (fun r hm=>by rw [h8 (by have:=List.length_pos_of_mem hm;omega)];exact hr r hm)
    (fun e=>by rw [h7 (by omega)];exact hc (by omega))
  | vec tot sz' cs =>
   obtain rfl:rows=[]:=as8 (by have:=h4.1;omega)
   exact .ownv id V (hp.mono m.hmono) ⟨_,h3,by simp,by simp⟩
  | gone =>
   exact .ownv id V (hp.mono m.hmono) ⟨_,h3,by simp,by simp⟩
  | _=>exact h4.elim
 | ownv id V hp hb=>exact .ownv id V (hp.mono m.hmono) (m.nf hb).1
 | vslice id tot off len sz b cap hl ht hc hv =>
  obtain⟨h1,h2,h3⟩:=m.nf hl
  exact .vslice id tot off len sz b cap h1 (by omega) hc fun e=>by rw [h3 (by omega)];exact hv (by omega)
 | vptr id tot off b hl ht hv =>
  obtain⟨h1,h2,h3⟩:=m.nf hl
  exact .vptr id tot off b h1 (by omega) fun e=>by rw [h3 (by omega)];exact hv (by omega)
 | ptr id off hl=>obtain⟨h1,h2⟩:=m.live hl;rw [←h2];exact .ptr id off h1
 | mslice id off len sz cap hl hc=>obtain⟨h1,h2⟩:=m.live hl;rw [←h2];exact .mslice id off len sz cap h1 hc
 | mslice0 id off sz cap a=>exact .mslice0 id off sz cap a
 | map id hl=>obtain⟨h1,h2⟩:=m.live hl;rw [←h2];exact .map id h1
 | func f first cap F C hlf hlc _ _ ihf ihc=>exact .func f first cap F C hlf hlc ihf ihc
 | iface t v V _ ih=>exact .iface t v V ih
end
section
open Go Go.RowKit
section inv
variable {G:Gh}{h:lT}{V:Value}
theorem mJ.qE {k:IntKind}{n:Int}(r:mJ G h (.int k n) V):V=.int k n:=by
 cases r with | p _ _ hp=>cases hp;rfl
theorem mJ.uX {b:Bool}(r:mJ G h (.bool b) V):V=.bool b:=by
 cases r with | p _ _ hp=>cases hp;rfl
theorem mJ.xH {s:List UInt8}(r:mJ G h (.str s) V):V=.string ⟨s.toArray⟩:=by
 cases r with | p _ _ hp=>cases hp;rfl
theorem mJ.sA {rows:List (List lS)}{t:Tok}(r:mJ G h (.slice rows t) V):pS G.H (.slice rows .no) V:=by
 cases r with
 | p _ _ hp =>
  cases hp with
  | slice0 a cap=>exact .slice0 a cap
  | slice rows b off cap sz V hr hc hH hk hV=>exact .slice rows b off cap sz V hr hc hH hk hV
 | nil=>exact .slice0 none 0
 | own rows id n sz V hp hf hn hr hc=>exact hp
 | ownv id V hp hb=>exact hp
theorem mJ.qK {id tot off len sz:Nat}(r:mJ G h (.vslice id tot off len sz) V):∃b cap,V=.slice (some ⟨b,off,none⟩) len cap∧tH h id∧tot≤wG (G.cur id)∧len≤cap ∧
   (tot=wG (G.cur id)→∃l cap0,G.cur id=.slice (some ⟨b,0,none⟩) tot cap0∧off=l*sz∧l+len≤tot∧cap=cap0-l):=by
 cases r with
 | p _ _ hp=>cases hp
 | vslice _ _ _ _ _ b cap hl ht hc hv=>exact⟨b,cap,rfl,hl,ht,hc,hv⟩
theorem mJ.B6 {id tot off:Nat}(r:mJ G h (.vptr id tot off) V):∃b,V=.pointer (some ⟨b,off,none⟩)∧tH h id∧tot≤wG (G.cur id)∧(tot=wG (G.cur id)→∃cap0,G.cur id=.slice (some ⟨b,0,none⟩) tot cap0):=by
 cases r with
 | p _ _ hp=>cases hp
 | vptr _ _ _ b hl ht hv=>exact⟨b,rfl,hl,ht,hv⟩
theorem mJ.tB {cs:List lS}(r:mJ G h (.agg cs) V):∃C:Array Value,V=.agg C∧cs.length=C.size∧∀(i:Nat) (v:lS),cs[i]?=some v→mJ G h v (C.getD i undef):=by
 cases r with
 | p _ _ hp=>cases hp with | agg cs C hl hh=>exact⟨C,rfl,hl,fun i v hv=>.p _ _ (hh i v hv)⟩
 | agg cs C hl hh=>exact⟨C,rfl,hl,hh⟩
theorem mJ.Aq {cs:List lS}(r:mJ G h (.tuple cs) V):∃C:Array Value,V=.tuple C∧cs.length=C.size∧∀(i:Nat) (v:lS),cs[i]?=some v→mJ G h v (C.getD i undef):=by
 cases r with
 | p _ _ hp=>cases hp with | tuple cs C hl hh=>exact⟨C,rfl,hl,fun i v hv=>.p _ _ (hh i v hv)⟩
 | tuple cs C hl hh=>exact⟨C,rfl,hl,hh⟩
theorem mJ.Tc (r:mJ G h (.tuple []) V):V=undef:=by
 obtain⟨C,rfl,hl,_⟩:=r.Aq
 have:C=#[]:=Array.eq_empty_of_size_eq_zero hl.symm
 subst this;rfl
theorem mJ.undef:mJ G h (.tuple []) Go.undef:=.p _ _ (.tuple [] #[] rfl (by simp))
theorem mJ.xF {id off:Nat}(r:mJ G h (.ptr id off) V):V=.pointer (some ⟨G.nY id,off,none⟩)∧live h id:=by
 cases r with
 | p _ _ hp=>cases hp
 | ptr id off hl=>exact⟨rfl,hl⟩
theorem mJ.BL {cs:List lS}(r:mJ G h (.pptr cs) V):pS G.H (.pptr cs) V:=by
 cases r with | p _ _ hp=>exact hp
theorem mJ.YL {n:String}{t:Nat}(r:mJ G h (.meth n t) V):∃W C,V=.func (.method n) #[.iface t W] C:=by
 cases r with | p _ _ hp=>cases hp;exact⟨_,_,rfl⟩
theorem mJ.vN {id off len sz:Nat}(r:mJ G h (.mslice id off len sz) V) :
  ∃a cap,V=.slice a len cap∧len≤cap∧(0<len→a=some ⟨G.nY id,off,none⟩∧live h id):=by
 cases r with
 | p _ _ hp=>cases hp
 | mslice id off len sz cap hl hc=>exact⟨_,cap,rfl,hc,fun _=>⟨rfl,hl⟩⟩
 | mslice0 id off sz cap a=>exact⟨a,cap,rfl,Nat.zero_le _,fun hh=>absurd hh (by omega)⟩
theorem mJ.D4 {f:Nat}{first cap:List lS}(r:mJ G h (.func f first cap) V) :
  ∃F C:Array Value,V=.func (.func f) F C∧first.length=F.size∧cap.length=C.size ∧
   (∀(i:Nat) (v:lS),first[i]?=some v→mJ G h v (F.getD i Go.undef))∧(∀(i:Nat) (v:lS),cap[i]?=some v→mJ G h v (C.getD i Go.undef)):=by
 cases r with
 | p _ _ hp=>cases hp with | func f=>exact⟨#[],#[],rfl,rfl,rfl,by simp,by simp⟩
 | func f first cap F C hlf hlc hf hc=>exact⟨F,C,rfl,hlf,hlc,hf,hc⟩
theorem mJ.xL {t:Nat}{v:lS}(r:mJ G h (.iface t v) V):∃W,V=.iface t W∧mJ G h v W:=by
 cases r with
 | p _ _ hp=>cases hp with | iface t v V hh=>exact⟨_,rfl,.p _ _ hh⟩
 | iface t v V hh=>exact⟨_,rfl,hh⟩
theorem mJ.AI {v:lS}(r:mJ G h v V) (hk:v.mZ=true):V.oneCell'=true∧V.cells=#[V]:=by
 cases r with
 | p _ _ hp=>cases hp <;> simp_all [lS.mZ,Value.oneCell',Value.cells]
 | own _ _ _ _ _ hp=>cases hp <;> simp [Value.oneCell',Value.cells]
 | ownv _ _ hp=>cases hp <;> simp [Value.oneCell',Value.cells]
 | _=>simp_all [lS.mZ,Value.oneCell',Value.cells]
theorem pS.AI {H:Nat→Nat→Option Value}{v:lS}(r:pS H v V) (hk:v.mZ=true):V.oneCell'=true∧V.cells=#[V]:=by
 cases r <;> simp_all [lS.mZ,Value.oneCell',Value.cells]
end inv
theorem CY (G:Gh) (h:lT) (v:Value):mJ G h (BG v) v:=by
 unfold BG
 split
 ·exact .p _ _ (.bool _)
 ·exact .p _ _ (.int _ _)
 ·rename_i s
  have:(⟨s.data.toList.toArray⟩:ByteArray)=s:=by cases s;simp
  have r:=mJ.p (G:=G) (h:=h) _ _ (pS.str (H:=G.H) s.data.toList)
  rw [this] at r;exact r
 ·exact .p _ _ .nilptr
 ·exact .nil
 ·exact .p _ _ .nilmap
 ·exact .p _ _ .nilfunc
 ·exact .p _ _ .niliface
 ·exact .p _ _ (.junk _)
theorem tI (G:Gh) (h:lT) (v:Value):mJ G h (ofConst v) v:=by
 unfold ofConst
 split
 ·rename_i cs
  refine .agg _ _ (by simp) fun i u hu=>?_
  simp only [ak4,ah7,aq2] at hu
  obtain⟨x,hx,rfl⟩:=hu
  have:cs.getD i undef=x:=by rw [aj5,hx];rfl
  rw [this]
  exact CY G h x
 ·rename_i cs
  split
  ·rename_i hn
   have:cs=#[]:=by cases cs;simp_all
   subst this
   exact .p _ _ (.tuple [] #[] rfl (by simp))
  ·exact .p _ _ (.junk _)
 ·exact CY G h v
def Oj (A:xO) (H:Nat→Nat→Option Value):Prop:=∀g cs,A.glob g=some cs→pS H (.pptr cs) (.pointer (some ⟨g,0,none⟩))
theorem Oj.mono {A:xO}{H H':Nat→Nat→Option Value}(hh:∀b k v,H b k=some v→H' b k=some v) (g:Oj A H):Oj A H':=fun i cs hc=>(g i cs hc).mono hh
structure qC (A:xO) (G:Gh) (h:lT) (w:World):Prop where
 cells:Oj A G.H
 size:∀g n,A.gsz g=some n→(∀id,owner G h id≠some g)∧∃C e fr,w.heap[g]?=some (.cells C e fr)∧C.size=n
theorem qC.mono {A:xO}{G G':Gh}{h h':lT}{w w':World}(gl:qC A G h w) (x:Ext G h w G' h' w'):qC A G' h' w' :=
 ⟨gl.cells.mono x.hmono,fun g n hg=>by
  obtain⟨h1,C,e,fr,h2,h3⟩:=gl.size g n hg
  have hlt:g<w.heap.size:=(Array.getElem?_eq_some_iff.1 h2).1
  exact⟨fun id ho=>h1 id (x.own id g ho hlt),C,e,fr,by rw [(x.frame g hlt h1).1];exact h2,h3⟩⟩
theorem qC.sub {A:xO}{G G':Gh}{h h':lT}{w:World}(gl:qC A G h w) (hH:G'.H=G.H) (ho:∀id b,owner G' h' id=some b→∃id',owner G h id'=some b):qC A G' h' w :=
 ⟨by rw [hH];exact gl.cells,fun g n hg=>by
  obtain⟨h1,h2⟩:=gl.size g n hg
  exact⟨fun id hi=>by obtain⟨id',h3⟩:=ho id g hi;exact h1 id' h3,h2⟩⟩
structure o9 (J:Act→Prop) (G:Gh) (h:lT) (ρ:List lS) (a:Act):Prop where
 len:ρ.length=a.tmps.size
 rel:∀(i:Nat) (v:lS),ρ[i]?=some v→mJ G h v (a.tmps.getD i undef)
 df:J a
theorem o9.mono {J:Act→Prop}{G G':Gh}{h h':lT}{ρ:List lS}{a:Act}(s:o9 J G h ρ a) (m:CG G h G' h'):o9 J G' h' ρ a :=
 ⟨s.len,fun i v hv=>(s.rel i v hv).mono m,s.df⟩
theorem o9.get {J:Act→Prop}{G:Gh}{h:lT}{ρ:List lS}{a:Act}(s:o9 J G h ρ a) (t:Nat):mJ G h (ρ.getD t .junk) (a.tmps.getD t undef):=by
 rw [ah6]
 cases hv:ρ[t]? with
 | none=>exact .p _ _ (.junk _)
 | some v=>exact s.rel t v hv
theorem o9.eval {J:Act→Prop}{A:xO}{G:Gh}{h:lT}{ρ:List lS}{a:Act}(s:o9 J G h ρ a) (gl:Oj A G.H) (x:Operand):mJ G h (qV A ρ x) (a.eval x):=by
 cases x with
 | tmp t=>exact s.get t
 | const v=>exact tI G h v
 | global g =>
  simp only [qV]
  cases hg:A.glob g with
  | none=>exact .p _ _ (.junk _)
  | some cs=>exact .p _ _ (gl g cs hg)
 | func f=>exact .p _ _ (.func f)
theorem o9.put {J:Act→Prop}{G:Gh}{h:lT}{ρ:List lS}{a:Act}(s:o9 J G h ρ a) (dst:Option Tmp) {v:lS}{V:Value}(r:mJ G h v V) (hj:J (a.put dst V)):o9 J G h (p7 ρ dst v) (a.put dst V):=by
 cases dst with
 | none=>exact s
 | some d =>
  refine⟨by simp [p7,Act.put,s.len],fun i u hu=>?_,hj⟩
  simp only [p7,List.getElem?_set] at hu
  simp only [Act.put,aj5,Array.getElem?_setIfInBounds]
  by_cases hdi:d=i
  ·subst hdi
   have hlt:d<ρ.length:=by
    by_cases hlt:d<ρ.length
    ·exact hlt
    ·simp [hlt] at hu
   simp only [hlt,if_true] at hu
   cases hu
   rw [s.len] at hlt
   simpa [hlt] using r
  ·simp only [hdi,if_false] at hu ⊢
   simpa [aj5] using s.rel i u hu
theorem Cc {G:Gh}{h:lT}{v:lS}{V:Value}(r:mJ G h v V) (hk:v.cells.all lS.mZ=true) :
  v.cells.length=V.cells.size∧∀(i:Nat) (u:lS),v.cells[i]?=some u→u.mZ=true∧mJ G h u (V.cells.getD i undef):=by
 by_cases ha:∃cs,v=.agg cs
 ·obtain⟨cs,rfl⟩:=ha
  obtain⟨C,rfl,hl,hr⟩:=r.tB
  simp only [lS.cells,Value.cells] at *
  exact⟨hl,fun i u hu=>⟨by simpa using aq5.1 hk u (aj8 hu),hr i u hu⟩⟩
 ·have hc:v.cells=[v]:=by cases v <;> simp_all [lS.cells]
  rw [hc] at hk ⊢
  have hk':v.mZ=true:=by simpa using hk
  obtain⟨_,h2⟩:=r.AI hk'
  rw [h2]
  refine⟨rfl,fun i u hu=>?_⟩
  cases i with
  | zero=>simp at hu;subst hu;exact⟨hk',by simpa using r⟩
  | succ i=>simp at hu
end
section
open Go Go.RowKit
section
variable {P:Program}{G:Gh}{h:lT}{w:World}{x y v:lS}{X Y:Value}
theorem w_ (op:BinOp) (t:TypeId) (xo yo:Operand) (X Y:Value) (hx:(∀cs,X≠.agg cs)∧X≠.nilIface):(eqGuard op t xo yo X Y).run P w=.ok () w:=by
 obtain⟨h1,h2⟩:=hx
 cases op <;> cases X <;> first
  | (exact absurd rfl (h1 _);done)
  | (exact absurd rfl h2;done)
  | (unfold eqGuard;simp [Sem.run_pure];done)
  | (unfold eqGuard;simp [Sem.run_pure];split <;> simp_all [Sem.run_pure];done)
theorem oP {t:TypeId}{n:Nat}(hn:oO P t=some n):(Go.sizeOf t).run P w=.ok n w:=by
 unfold oO at hn
 cases hu:P.info? t with
 | none=>simp [hu] at hn
 | some ti=>simp [hu] at hn;simp [Go.sizeOf,Go.typeInfo,hu,hn]
theorem Dv {t:TypeId}{g:Bool}(hg:qW P t=some g):(isAgg t).run P w=.ok g w:=by
 unfold qW at hg
 cases hu:P.underlying t with
 | none=>simp [hu] at hg
 | some d=>cases d <;> simp_all [isAgg,run_underlying,Sem.run_pure]
theorem run_equalIn_bool {t:TypeId}(ht:P.underlying t=some .bool) (d:Nat) (a b:Bool):(Op.equalIn (d+1) t (.bool a) (.bool b)).run P w=.ok (a == b) w:=by
 simp only [Op.equalIn,Sem.run_bind,run_underlying ht,Result.andThen_ok,Sem.run_pure]
theorem HJ {op:BinOp}(t:TypeId) (xo yo:Operand) (hb:mP op x y=some v) (hx:mJ G h x X) (hy:mJ G h y Y) :
  ∃V,(do eqGuard op t xo yo X Y;binOp op t X Y:Sem Value).run P w=.ok V w∧mJ G h v V:=by
 unfold mP at hb
 split at hb
 ·rename_i k a k' b
  have:=hx.qE;subst this
  have:=hy.qE;subst this
  have hg:=w_ (P:=P) (w:=w) op t xo yo (.int k a) (.int k' b) (by simp)
  simp only [Sem.run_bind,hg,Result.andThen_ok]
  cases op <;> (try simp only at hb) <;> (try split at hb) <;> (try simp only [ah5,reduceCtorEq] at hb)
  all_goals (try subst hb)
  all_goals (try (rename_i hk;simp only [ne_eq,Decidable.not_not] at hk;try subst hk))
  all_goals (try (split at hb))
  all_goals (try (cases hb;done))
  all_goals (try (simp only [ah5] at hb;subst hb))
  all_goals refine⟨_,?_,.p _ _ (by first | exact .int _ _ | exact .bool _)⟩
  all_goals (try simp_all [binOp,Op.intArith,Op.intCmp,Op.intDiv,Op.intBits,Op.shift,Sem.run_pure])
  all_goals (intro hlt;omega)
 ·rename_i a b
  have:=hx.xH;subst this
  have:=hy.xH;subst this
  have hg:=w_ (P:=P) (w:=w) op t xo yo (.string ⟨a.toArray⟩) (.string ⟨b.toArray⟩) (by simp)
  simp only [Sem.run_bind,hg,Result.andThen_ok]
  cases op <;> simp only [reduceCtorEq] at hb <;> (try split at hb) <;> simp only [ah5,reduceCtorEq] at hb
  all_goals subst hb
  ·rename_i hl
   refine⟨.string (⟨a.toArray⟩++⟨b.toArray⟩),?_,?_⟩
   ·show(Op.stringOp .add _ _).run P w=_
    refine run_string_add_sum _ _ _ ?_
    show a.toArray.size+b.toArray.size≤_
    simp only [List.size_toArray];omega
   ·have:(⟨a.toArray⟩:ByteArray)++⟨b.toArray⟩=⟨(a++b).toArray⟩:=by
     apply ByteArray.ext;simp
    rw [this];exact .p _ _ (.str _)
  all_goals exact⟨_,by simp [binOp,Op.stringOp,Sem.run_pure],.p _ _ (.bool _)⟩
 ·cases hb
theorem Ot {op:BinOp}{t:TypeId}(ht:P.underlying t=some .bool) (xo yo:Operand) (hb:Oq op x y=some v) (hx:mJ G h x X) (hy:mJ G h y Y) :
  ∃V,(do eqGuard op t xo yo X Y;binOp op t X Y:Sem Value).run P w=.ok V w∧mJ G h v V:=by
 unfold Oq at hb
 split at hb
 all_goals first | (cases hb;done) | skip
 all_goals
  rename_i a b
  have:=hx.uX;subst this
  have:=hy.uX;subst this
  simp only [ah5] at hb;subst hb
  refine⟨_,?_,.p _ _ (.bool _)⟩
  have he:=run_equalIn_bool (P:=P) (w:=w) ht 9999 a b
  simp only [Sem.run_bind,w_ (P:=P) (w:=w) _ t xo yo (.bool a) (.bool b) (by simp),Result.andThen_ok]
  simp only [binOp,Sem.run_bind,Op.equal,Op.maxDepth,he,Result.andThen_ok,Sem.run_pure]
theorem GR {t e:TypeId}(ht:P.underlying t=some (.pointer e)) (d:Nat) (a:Option Addr):(Op.equalIn (d+1) t (.pointer a) (.pointer none)).run P w=.ok a.isNone w:=by
 cases a <;> simp only [Op.equalIn,Sem.run_bind,run_underlying ht,Result.andThen_ok,Sem.run_pure] <;> rfl
theorem Ou {op:BinOp}{t e:TypeId}(ht:P.underlying t=some (.pointer e)) (xo yo:Operand) (hb:WD op x y=some v) (hx:mJ G h x X) (hy:mJ G h y Y) :
  ∃V,(do eqGuard op t xo yo X Y;binOp op t X Y:Sem Value).run P w=.ok V w∧mJ G h v V:=by
 have key:∀b,Ia x=some b→∃a,X=.pointer a∧a.isNone=b:=by
  intro b hb
  cases hx with
  | p v V hp =>
   cases hp <;> simp only [Ia,ah5,reduceCtorEq] at hb <;> subst hb <;> exact⟨_,rfl,rfl⟩
  | ptr id off hl=>simp only [Ia,ah5] at hb;subst hb;exact⟨_,rfl,rfl⟩
  | vptr id tot off b hl _ hv=>simp only [Ia,ah5] at hb;subst hb;exact⟨_,rfl,rfl⟩
  | _=>simp [Ia] at hb
 unfold WD at hb
 split at hb
 all_goals first | (cases hb;done) | skip
 all_goals
  have hY:Y=.pointer none:=by
   cases hy with
   | p v V hp=>cases hp;rfl
  subst hY
  obtain⟨b,h1,h2⟩:=ah7.1 hb
  obtain⟨a,rfl,ha⟩:=key b h1
  subst ha;subst h2
  refine⟨_,?_,.p _ _ (.bool _)⟩
  have he:=GR (P:=P) (w:=w) ht 9999 a
  simp only [Sem.run_bind,w_ (P:=P) (w:=w) _ t xo yo (.pointer a) (.pointer none) (by simp),Result.andThen_ok]
  simp only [binOp,Sem.run_bind,Op.equal,Op.maxDepth,he,Result.andThen_ok,Sem.run_pure]
theorem UP {op:UnOp}(hb:yD op x=some v) (hx:mJ G h x X):∃V,(Op.unary op X).run P w=.ok V w∧mJ G h v V:=by
 unfold yD at hb
 split at hb
 all_goals first | (cases hb;done) | skip
 all_goals simp only [ah5] at hb;subst hb
 ·have:=hx.qE;subst this
  exact⟨_,by simp [Op.unary,Op.intArith,Sem.run_pure],.p _ _ (.int _ _)⟩
 ·have:=hx.qE;subst this
  exact⟨_,by simp [Op.unary,Op.intBits,Sem.run_pure],.p _ _ (.int _ _)⟩
 ·have:=hx.uX;subst this
  exact⟨_,by simp [Op.unary,Sem.run_pure],.p _ _ (.bool _)⟩
theorem HK {s d:TypeId}{k k0:IntKind}(hs:P.underlying s=some (.int k0)) (hd:P.underlying d=some (.int k)) (hb:Bo k x=some v) (hx:mJ G h x X) :
  ∃V,(convert s d X).run P w=.ok V w∧mJ G h v V:=by
 unfold Bo at hb
 split at hb <;> simp only [ah5,reduceCtorEq] at hb
 subst hb
 have:=hx.qE;subst this
 exact⟨_,by simp [convert,run_underlying hs,run_underlying hd,Conv.intToInt,Sem.run_pure],.p _ _ (.int _ _)⟩
theorem OK {c a b:lS}{C A B:Value}(hb:nA c a b=some v) (hc:mJ G h c C) (ha:mJ G h a A) (hbb:mJ G h b B) :
  ∃V,((do pure (.value (if ←asBool C then A else B))):Sem Next).run P w=.ok (.value V) w∧mJ G h v V:=by
 unfold nA at hb
 split at hb <;> simp only [ah5,reduceCtorEq] at hb
 rename_i g
 subst hb
 have:=hc.uX;subst this
 refine⟨bif g then A else B,?_,by cases g <;> assumption⟩
 cases g <;> simp [asBool,Sem.run_pure]
theorem HO {i:Nat}(hb:nO i x=some v) (hx:mJ G h x X):∃V,(Instr.extract X i).run P w=.ok V w∧mJ G h v V:=by
 unfold nO at hb
 split at hb
 ·obtain⟨C,rfl,hl,hr⟩:=hx.Aq
  have hlt:i<C.size:=by rw [←hl];exact(ag0.1 hb).1
  refine⟨C.getD i undef,?_,hr i v hb⟩
  simp [Instr.extract,Array.getElem?_eq_getElem hlt,Sem.run_pure]
 ·cases hb
theorem yJ {g:Bool}{n off:Nat}{cs:List lS}{C:Array Value}{t:TypeId}(hg:qW P t=some g) (hn:oO P t=some n)
  (hb:apart g n cs off=some v) (hl:cs.length=C.size) (hr:∀(i:Nat) (u:lS),cs[i]?=some u→mJ G h u (C.getD i undef)) :
  ∃V,(part t C off).run P w=.ok V w∧mJ G h v V:=by
 have hagg:=Dv (w:=w) hg
 have hsz:=oP (w:=w) hn
 unfold apart at hb
 cases g with
 | true =>
  simp only [cond_true] at hb
  split at hb <;> simp only [ah5,reduceCtorEq] at hb
  rename_i hle
  subst hb
  refine⟨.agg (C.extract off (off+n)),?_,.agg _ _ ?_ ?_⟩
  ·simp [part,hagg,hsz]
  ·simp;omega
  ·intro i u hu
   have hi:i<n:=by
    have:=(ag0.1 hu).1
    simp at this;omega
   rw [ar0,if_pos hi,aq4] at hu
   have:=hr _ _ hu
   have hsz2:off+i<C.size:=by omega
   rw [aj5] at this ⊢
   rw [Array.getElem?_extract,if_pos (by omega)]
   exact this
 | false =>
  simp only [cond_false] at hb
  have hlt:off<C.size:=by rw [←hl];exact(ag0.1 hb).1
  exact⟨C.getD off undef,by simp [part,hagg,Array.getElem?_eq_getElem hlt,Sem.run_pure],hr off v hb⟩
end
end
section
open Go Go.RowKit
section
variable {P:Program}{G:Gh}{h:lT}{w:World}{x y v:lS}{X Y:Value}
theorem LX {t ft:TypeId}{fs:Array Field}{f:Nat}{fd:Field}{g:Bool}{n:Nat}(ht:P.underlying t=some (.struct fs)) (hf:fs[f]?=some fd)
  (hg:qW P fd.type=some g) (hn:oO P fd.type=some n) (hb:Bp g n fd.offset x=some v) (hx:mJ G h x X) :
  ∃V,(Instr.field t X f).run P w=.ok V w∧mJ G h v V:=by
 unfold Bp at hb
 split at hb
 ·obtain⟨C,rfl,hl,hr⟩:=hx.tB
  obtain⟨V,h1,h2⟩:=yJ (w:=w) hg hn hb hl hr
  exact⟨V,by simp [Instr.field,run_underlying ht,hf,asAgg,h1,Sem.run_pure],h2⟩
 ·cases hb
theorem GI {t:TypeId}(ht:P.underlying t=some .string) (hb:tC x y=some v) (hx:mJ G h x X) (hy:mJ G h y Y) :
  ∃V,(Instr.index t X Y).run P w=.ok V w∧mJ G h v V:=by
 unfold tC at hb
 split at hb
 ·rename_i s k n
  split at hb
  ·rename_i h0
   have:=hx.xH;subst this
   have:=hy.qE;subst this
   cases hs:s[n.toNat]? with
   | none=>simp [hs] at hb
   | some b =>
    simp [hs] at hb;subst hb
    refine⟨_,?_,.p _ _ (.int _ _)⟩
    have hget:(⟨s.toArray⟩:ByteArray)[n.toNat]?=some b:=by
     have hlt:n.toNat<s.length:=(ag0.1 hs).1
     have hb2:s[n.toNat]=b:=(ag0.1 hs).2
     have hsz:n.toNat<(⟨s.toArray⟩:ByteArray).size:=by show n.toNat<s.toArray.size;simpa using hlt
     rw [getElem?_pos (c:=(⟨s.toArray⟩:ByteArray)) (i:=n.toNat) hsz]
     rw [←hb2];rfl
    simp [Instr.index,asIntOf,run_underlying ht,h0,hget,Sem.run_pure]
  ·cases hb
 ·cases hb
theorem GH {t e:TypeId}{len sz:Nat}{g:Bool}(ht:P.underlying t=some (.array len e)) (hg:qW P e=some g) (hn:oO P e=some sz)
  (hb:E6 g len sz x y=some v) (hx:mJ G h x X) (hy:mJ G h y Y):∃V,(Instr.index t X Y).run P w=.ok V w∧mJ G h v V:=by
 unfold E6 at hb
 split at hb
 ·rename_i cs k n
  split at hb
  ·rename_i h0
   obtain⟨C,rfl,hl,hr⟩:=hx.tB
   have:=hy.qE;subst this
   obtain⟨V,h1,h2⟩:=yJ (w:=w) hg hn hb hl hr
   exact⟨V,by simp [Instr.index,asIntOf,run_underlying ht,h0,oP hn,h1,Sem.run_pure],h2⟩
  ·cases hb
 ·cases hb
theorem F9 {b:Option lS}{B:Option Value}{dflt y0 n:Nat}{code:BoundsCode}(hb:pZ b dflt=some n) (hle:n≤y0)
  (hr:∀u,b=some u→∃U,B=some U∧mJ G h u U) (hnone:b=none→B=none) :
  (match B with | some U=>Instr.sliceBound U y0 code | none=>(pure dflt:Sem Nat)).run P w=.ok n w:=by
 unfold pZ at hb
 cases b with
 | none=>rw [hnone rfl];simp at hb;subst hb;simp [Sem.run_pure]
 | some u =>
  obtain⟨U,rfl,hU⟩:=hr u rfl
  cases u <;> simp at hb
  rename_i k m
  obtain⟨h0,rfl⟩:=hb
  have:=hU.qE;subst this
  have:(0:Int)≤m∧m≤(y0:Int):=⟨h0,by omega⟩
  simp [Instr.sliceBound,asIntOf,this,Sem.run_pure]
theorem sL {isS:Bool}{lo hi:Option lS}{LO HI:Option Value}{len cap l u:Nat}(hlo:pZ lo 0=some l) (hhi:pZ hi len=some u) (hlu:l≤u) (hlen:len≤cap) (huc:u≤cap)
  (hrl:∀a,lo=some a→∃U,LO=some U∧mJ G h a U) (hnl:lo=none→LO=none) (hrh:∀a,hi=some a→∃U,HI=some U∧mJ G h a U) (hnh:hi=none→HI=none) :
  (Instr.sliceBounds isS len cap LO HI none).run P w=.ok (l,u,cap) w:=by
 have h1:=F9 (P:=P) (w:=w) (code:=if isS then .sliceAcap else .sliceAlen) hhi huc hrh hnh
 have h2:=F9 (P:=P) (w:=w) (code:=.sliceB) hlo hlu hrl hnl
 unfold Instr.sliceBounds
 cases HI with
 | none =>
  simp only [Sem.run_pure,Result.ok.injEq,and_true] at h1;subst h1
  cases LO with
  | none=>simp only [Sem.run_pure,Result.ok.injEq,and_true] at h2;subst h2;simp [Sem.run_pure]
  | some L=>simp only [] at h2;simp [h2,Sem.run_pure]
 | some Hh =>
  simp only [] at h1
  cases LO with
  | none=>simp only [Sem.run_pure,Result.ok.injEq,and_true] at h2;subst h2;simp [h1,Sem.run_pure]
  | some L=>simp only [] at h2;simp [h1,h2,Sem.run_pure]
theorem YY {f:Operand→lS}{F:Operand→Value}(hf:∀o,mJ G h (f o) (F o)) (o:Option Operand) :
  (∀a,o.map f=some a→∃U,o.map F=some U∧mJ G h a U)∧(o.map f=none→o.map F=none):=by
 cases o with
 | none=>simp
 | some o=>exact⟨fun a ha=>⟨F o,rfl,by simp at ha;subst ha;exact hf o⟩,by simp⟩
section slices
variable {lo hi:Option lS}{LO HI:Option Value}
 (hrl:∀a,lo=some a→∃U,LO=some U∧mJ G h a U) (hnl:lo=none→LO=none) (hrh:∀a,hi=some a→∃U,HI=some U∧mJ G h a U) (hnh:hi=none→HI=none)
include hrl hnl hrh hnh
theorem GK {t:TypeId}(ht:P.underlying t=some .string) (hb:sO x lo hi=some v) (hx:mJ G h x X) :
  ∃V,(Instr.sliceAt t X LO HI none).run P w=.ok V w∧mJ G h v V:=by
 unfold sO at hb
 split at hb
 ·rename_i s
  have:=hx.xH;subst this
  split at hb
  ·rename_i l u hl hu
   split at hb <;> simp only [ah5,reduceCtorEq] at hb
   rename_i hlu
   subst hb
   have hsz:(⟨s.toArray⟩:ByteArray).size=s.length:=by show s.toArray.size=_;simp
   have hr:=sL (P:=P) (w:=w) (isS:=false) (len:=s.length) (cap:=s.length) hl hu hlu.1 (ak5 _) hlu.2 hrl hnl hrh hnh
   refine⟨.string ((⟨s.toArray⟩:ByteArray).extract l u),?_,?_⟩
   ·simp [Instr.sliceAt,run_underlying ht,Instr.slice,hsz,hr,Sem.run_pure]
   ·have:(⟨s.toArray⟩:ByteArray).extract l u=⟨((s.drop l).take (u-l)).toArray⟩:=by
     apply ByteArray.ext
     simp [ByteArray.data_extract]
    rw [this];exact .p _ _ (.str _)
  ·cases hb
 ·cases hb
theorem GJ {t e:TypeId}{len sz:Nat}(ht:P.underlying t=some (.array len e)) (hn:oO P e=some sz) (hb:E9 len sz x lo hi=some v) (hx:mJ G h x X) :
  ∃V,(Instr.sliceAt t X LO HI none).run P w=.ok V w∧mJ G h v V:=by
 have hadd:∀b off k,Addr.add ⟨b,off,none⟩ k=⟨b,off+k,none⟩:=by
  intro b off k;unfold Addr.add;split <;> simp_all
 unfold E9 at hb
 split at hb
 ·rename_i id off
  split at hb <;> simp only [ah5,reduceCtorEq] at hb
  rename_i hlen
  subst hb
  obtain⟨rfl,hl⟩:=hx.xF
  have h1:=hnl rfl
  have h2:=hnh rfl
  subst h1;subst h2
  refine⟨.slice (some ⟨G.nY id,off,none⟩) len len,?_,.mslice _ _ _ _ _ hl (ak5 _)⟩
  simp [Instr.sliceAt,run_underlying ht,Instr.sureAddr,Instr.sliceBounds,oP hn,Sem.run_pure,hadd]
 ·cases hb
theorem Ib {t e:TypeId}{sz:Nat}(ht:P.underlying t=some (.slice e)) (hn:oO P e=some sz) (hb:pF sz x lo hi=some v) (hx:mJ G h x X) :
  ∃V,(Instr.sliceAt t X LO HI none).run P w=.ok V w∧mJ G h v V:=by
 unfold pF at hb
 split at hb
 ·rename_i rows tok
  have hp:=hx.sA
  split at hb
  ·rename_i l u hl hu
   split at hb <;> simp only [ah5,reduceCtorEq] at hb
   rename_i hlu
   obtain⟨hlu1,hlu2,hall⟩:=hlu
   subst hb
   cases hp with
   | slice0 a cap =>
    simp only [List.length_nil,Nat.le_zero_eq] at hlu2
    subst hlu2
    have hl0:l=0:=by omega
    subst hl0
    have hr:=sL (P:=P) (w:=w) (isS:=true) (len:=0) (cap:=cap) hl hu hlu1 (Nat.zero_le _) (Nat.zero_le _) hrl hnl hrh hnh
    refine⟨.slice (if cap=0 then a else a.map (·.add (0*sz))) 0 cap,?_,.p _ _ (by simp only [List.drop_nil,List.take_nil];exact .slice0 _ _)⟩
    simp [Instr.sliceAt,run_underlying ht,Instr.slice,oP hn,hr,Sem.run_pure]
   | slice rows b off cap sz' V hr0 hc hH hk hV =>
    have hr:=sL (P:=P) (w:=w) (isS:=true) (len:=rows.length) (cap:=cap) hl hu hlu1 hc (by omega) hrl hnl hrh hnh
    refine⟨.slice (if cap=l then some ⟨b,off,none⟩ else some (Addr.add ⟨b,off,none⟩ (l*sz))) (u-l) (cap-l),?_,?_⟩
    ·simp [Instr.sliceAt,run_underlying ht,Instr.slice,oP hn,hr,Sem.run_pure]
    ·have hlen:((rows.drop l).take (u-l)).length=u-l:=by simp;omega
     by_cases h0:u-l=0
     ·have:(rows.drop l).take (u-l)=[]:=by rw [h0];simp
      rw [this,h0];exact .p _ _ (.slice0 _ _)
     ·have hcl:¬cap=l:=by omega
      have hszz:sz'=sz:=by
       have hm:rows[l]?=some rows[l]:=ag8 (by omega)
       have h1:=hr0 rows[l] (aj8 hm)
       have h2:=aq5.1 hall rows[l] (aj8 hm)
       simp at h2;omega
      subst hszz
      rw [if_neg hcl]
      have hadd:Addr.add ⟨b,off,none⟩ (l*sz')=⟨b,off+l*sz',none⟩:=by
       unfold Addr.add;split <;> simp_all
      rw [hadd]
      have hget:∀i (row:List lS),((rows.drop l).take (u-l))[i]?=some row→rows[l+i]?=some row:=by
       intro i row hi
       rw [ar0] at hi
       split at hi
       ·rwa [aq4] at hi
       ·cases hi
      have hmem:∀r∈(rows.drop l).take (u-l),r.length=sz':=fun r hrm=>hr0 r (List.mem_of_mem_drop (List.mem_of_mem_take hrm))
      generalize (rows.drop l).take (u-l)=R at hlen hget hmem
      rw [←hlen]
      refine .p _ _ (.slice R b (off+l*sz') (cap-l) sz' (fun k=>V (l*sz'+k)) hmem (by rw [hlen];omega) ?_ ?_ ?_)
      ·intro i j row v h1 h2
       have:=hH (l+i) j row v (hget i row h1) h2
       rw [show off+l*sz'+(i*sz'+j)=off+((l+i)*sz'+j) by rw [aB1];omega,this]
       congr 2;rw [aB1];omega
      ·intro i j row v h1 h2;exact hk (l+i) j row v (hget i row h1) h2
      ·intro i j row v h1 h2
       have:=hV (l+i) j row v (hget i row h1) h2
       rw [show l*sz'+(i*sz'+j)=(l+i)*sz'+j by rw [aB1];omega];exact this
  ·cases hb
 ·rename_i id off len sz'
  obtain⟨a,cap,rfl,hlc,ha⟩:=hx.vN
  split at hb
  ·rename_i l u hl hu
   split at hb <;> simp only [ah5,reduceCtorEq] at hb
   rename_i hlu
   obtain⟨hlu1,hlu2,rfl⟩:=hlu
   subst hb
   have hr:=sL (P:=P) (w:=w) (isS:=true) (len:=len) (cap:=cap) hl hu hlu1 hlc (by omega) hrl hnl hrh hnh
   refine⟨.slice (if cap=l then a else a.map (·.add (l*sz'))) (u-l) (cap-l),?_,?_⟩
   ·simp [Instr.sliceAt,run_underlying ht,Instr.slice,oP hn,hr,Sem.run_pure]
   ·by_cases h0:u-l=0
    ·rw [h0];exact .mslice0 _ _ _ _ _
    ·obtain⟨rfl,hlv⟩:=ha (by omega)
     rw [if_neg (by omega)]
     have hadd:Addr.add ⟨G.nY id,off,none⟩ (l*sz')=⟨G.nY id,off+l*sz',none⟩:=by
      unfold Addr.add;split <;> simp_all
     simp only [Option.map_some,hadd]
     exact .mslice id _ _ sz' _ hlv (by omega)
  ·cases hb
 ·rename_i id tot off len sz'
  obtain⟨b,cap,rfl,hnf,htot,hlc,hv⟩:=hx.qK
  split at hb
  ·rename_i l u hl hu
   split at hb
   case isFalse=>cases hb
   rename_i hlu
   obtain⟨hlu1,hlu2,rfl⟩:=hlu
   have hr:=sL (P:=P) (w:=w) (isS:=true) (len:=len) (cap:=cap) hl hu hlu1 hlc (by omega) hrl hnl hrh hnh
   have hrun:(Instr.sliceAt t (.slice (some ⟨b,off,none⟩) len cap) LO HI none).run P w=.ok (.slice (if cap=l then some ⟨b,off,none⟩ else(some (Addr.mk b off none)).map (·.add (l*sz'))) (u-l) (cap-l)) w:=by
    simp [Instr.sliceAt,run_underlying ht,Instr.slice,oP hn,hr,Sem.run_pure]
   have hadd:Addr.add ⟨b,off,none⟩ (l*sz')=⟨b,off+l*sz',none⟩:=by
    unfold Addr.add;split <;> simp_all
   split at hb <;> simp only [ah5] at hb <;> subst hb
   ·rename_i hor
    refine⟨_,hrun,?_⟩
    have haddr:(if cap=l then some (Addr.mk b off none) else(some (Addr.mk b off none)).map (·.add (l*sz')))=some ⟨b,off+l*sz',none⟩:=by
     split
     ·have:l=0:=by omega
      subst this;simp
     ·simp only [Option.map_some,hadd]
    rw [haddr]
    refine .vslice id tot _ _ sz' b _ hnf htot (by omega) fun e=>?_
    obtain⟨l0,cap0,h1,h2,h3,h4⟩:=hv e
    exact⟨l0+l,cap0,h1,by rw [h2,aB1],by omega,by omega⟩
   ·rename_i hor
    have h0:u-l=0:=by omega
    refine⟨_,hrun,?_⟩
    rw [h0];exact .p _ _ (.slice0 _ _)
  ·cases hb
 ·cases hb
end slices
theorem J6 {t:TypeId}{ty:TypeId}(ht:P.underlying t=some .string) (hb:GW x=some v) (hx:mJ G h x X) :
  ∃V,(Builtin.len_ #[t] ty #[X]).run P w=.ok V w∧mJ G h v V:=by
 unfold GW at hb
 split at hb <;> simp only [ah5,reduceCtorEq] at hb
 subst hb
 rename_i s
 have:=hx.xH;subst this
 refine⟨.int .i64 s.length,?_,.p _ _ (.int _ _)⟩
 have hsz:(⟨s.toArray⟩:ByteArray).size=s.length:=by show s.toArray.size=_;simp
 simp [Builtin.len_,run_underlying ht,goInt,hsz,Sem.run_pure]
theorem L7 {t:TypeId}{ty e:TypeId}(ht:P.underlying t=some (.slice e)) (hb:nK x=some v) (hx:mJ G h x X) :
  ∃V,(Builtin.len_ #[t] ty #[X]).run P w=.ok V w∧mJ G h v V:=by
 unfold nK at hb
 split at hb <;> simp only [ah5,reduceCtorEq] at hb <;> subst hb
 ·rename_i rows tok
  have hp:=hx.sA
  refine⟨.int .i64 rows.length,?_,.p _ _ (.int _ _)⟩
  cases hp <;> simp [Builtin.len_,run_underlying ht,goInt,Sem.run_pure]
 ·rename_i id off len sz
  obtain⟨a,cap,rfl,_⟩:=hx.vN
  exact⟨.int .i64 len,by simp [Builtin.len_,run_underlying ht,goInt,Sem.run_pure],.p _ _ (.int _ _)⟩
 ·rename_i id tot off len sz
  obtain⟨a,cap,rfl,_⟩:=hx.qK
  exact⟨.int .i64 len,by simp [Builtin.len_,run_underlying ht,goInt,Sem.run_pure],.p _ _ (.int _ _)⟩
theorem F5 (hb:DR x y=some v) (hx:mJ G h x X) (hy:mJ G h y Y):∃V,(Builtin.max2 X Y).run P w=.ok V w∧mJ G h v V:=by
 unfold DR at hb
 split at hb <;> simp only [ah5,reduceCtorEq] at hb
 subst hb
 have:=hx.qE;subst this
 have:=hy.qE;subst this
 exact⟨_,by simp [Builtin.max2,Sem.run_pure],.p _ _ (.int _ _)⟩
theorem F7 (hb:CS x y=some v) (hx:mJ G h x X) (hy:mJ G h y Y):∃V,(Builtin.min2 X Y).run P w=.ok V w∧mJ G h v V:=by
 unfold CS at hb
 split at hb <;> simp only [ah5,reduceCtorEq] at hb
 subst hb
 have:=hx.qE;subst this
 have:=hy.qE;subst this
 exact⟨_,by simp [Builtin.min2,Sem.run_pure],.p _ _ (.int _ _)⟩
theorem F8:∀{l:List lS}{L:List Value}{x v:lS}{X:Value},OI x l=some v→mJ G h x X→l.length=L.length→(∀(j:Nat) (u:lS) (U:Value),l[j]?=some u→L[j]?=some U→mJ G h u U) →
  ∃V,(L.foldlM Builtin.min2 X).run P w=.ok V w∧mJ G h v V
 | [],[],x,v,X,hb,hx,_,_=>by
  simp only [OI,ah5] at hb
  subst hb
  exact⟨X,rfl,hx⟩
 | [],_::_,_,_,_,_,_,hl,_=>by simp at hl
 | _::_,[],_,_,_,_,_,hl,_=>by simp at hl
 | y::r,Y::R,x,v,X,hb,hx,hl,hr=>by
  simp only [OI] at hb
  obtain⟨z,hz,hb⟩:=ac6.1 hb
  obtain⟨Z,e1,e2⟩:=F7 (P:=P) (w:=w) hz hx (hr 0 y Y rfl rfl)
  obtain⟨V,e3,e4⟩:=F8 (L:=R) hb e2 (by simpa using hl) fun j u U hu hU=>hr (j+1) u U hu hU
  exact⟨V,by simp only [List.foldlM_cons,Sem.run_bind,e1,Result.andThen_ok,e3],e4⟩
theorem F6:∀{l:List lS}{L:List Value}{x v:lS}{X:Value},OG x l=some v→mJ G h x X→l.length=L.length→(∀(j:Nat) (u:lS) (U:Value),l[j]?=some u→L[j]?=some U→mJ G h u U) →
  ∃V,(L.foldlM Builtin.max2 X).run P w=.ok V w∧mJ G h v V
 | [],[],x,v,X,hb,hx,_,_=>by
  simp only [OG,ah5] at hb
  subst hb
  exact⟨X,rfl,hx⟩
 | [],_::_,_,_,_,_,_,hl,_=>by simp at hl
 | _::_,[],_,_,_,_,_,hl,_=>by simp at hl
 | y::r,Y::R,x,v,X,hb,hx,hl,hr=>by
  simp only [OG] at hb
  obtain⟨z,hz,hb⟩:=ac6.1 hb
  obtain⟨Z,e1,e2⟩:=F5 (P:=P) (w:=w) hz hx (hr 0 y Y rfl rfl)
  obtain⟨V,e3,e4⟩:=F6 (L:=R) hb e2 (by simpa using hl) fun j u U hu hU=>hr (j+1) u U hu hU
  exact⟨V,by simp only [List.foldlM_cons,Sem.run_bind,e1,Result.andThen_ok,e3],e4⟩
theorem HQ {t:TypeId}{fs:Array Field}{f:Nat}{fd:Field}{n:Nat}(ht:P.underlying t=some (.struct fs)) (hf:fs[f]?=some fd)
  (hn:oO P fd.type=some (n+1)) (hb:mG fd.offset x=some v) (hx:mJ G h x X) :
  ∃V,(Instr.fieldAt t X f).run P w=.ok V w∧mJ G h v V:=by
 have run:∀b off,(Instr.fieldAt t (.pointer (some ⟨b,off,none⟩)) f).run P w=.ok (.pointer (some (Addr.add ⟨b,off,none⟩ fd.offset))) w:=by
  intro b off
  simp [Instr.fieldAt,run_underlying ht,hf,Instr.sureAddr,fieldPlace,oP hn,Sem.run_pure]
 have hadd:∀b off,Addr.add ⟨b,off,none⟩ fd.offset=⟨b,off+fd.offset,none⟩:=by
  intro b off;unfold Addr.add;split <;> simp_all
 unfold mG at hb
 split at hb <;> simp only [ah5,reduceCtorEq] at hb <;> subst hb
 ·rename_i id o
  obtain⟨rfl,hl⟩:=hx.xF
  exact⟨_,run _ _,by rw [hadd];exact .ptr _ _ hl⟩
 ·rename_i id tot o
  obtain⟨b,rfl,h1,h2,h3⟩:=hx.B6
  exact⟨_,run _ _,by rw [hadd];exact .vptr _ _ _ b h1 h2 h3⟩
 ·rename_i cs
  have hp:=hx.BL
  cases hp with
  | pptr cs b off V hH hk hV =>
   refine⟨_,run _ _,.p _ _ ?_⟩
   rw [hadd]
   refine .pptr _ b (off+fd.offset) (fun j=>V (fd.offset+j)) ?_ ?_ ?_
   ·intro j v hj;rw [aq4] at hj;have:=hH _ v hj;rw [←this];congr 1;omega
   ·intro j v hj;rw [aq4] at hj;exact hk _ v hj
   ·intro j v hj;rw [aq4] at hj;exact hV _ v hj
theorem HZ {t e:TypeId}{sz:Nat}(ht:P.underlying t=some (.slice e)) (hn:oO P e=some sz) (hb:mI sz x y=some v) (hx:mJ G h x X) (hy:mJ G h y Y) :
  ∃V,(Instr.indexAt t X Y).run P w=.ok V w∧mJ G h v V:=by
 have hadd:∀b off k,Addr.add ⟨b,off,none⟩ k=⟨b,off+k,none⟩:=by
  intro b off k;unfold Addr.add;split <;> simp_all
 unfold mI at hb
 split at hb
 ·rename_i rows tok k n
  have:=hy.qE;subst this
  split at hb
  ·rename_i h0
   split at hb
   ·rename_i row hrow
    split at hb <;> simp only [ah5,reduceCtorEq] at hb
    rename_i hlen
    subst hb
    have hp:=hx.sA
    have hlt:n.toNat<rows.length:=(ag0.1 hrow).1
    cases hp with
    | slice0 a cap=>simp at hlt
    | slice rows b off cap sz' V hr hc hH hk hV =>
     have:sz'=sz:=by rw [←hr row (aj8 hrow),hlen]
     subst this
     have hcond:(0:Int)≤n∧n<(rows.length:Int):=⟨h0,by omega⟩
     refine⟨.pointer (some (Addr.add ⟨b,off,none⟩ (n.toNat*sz'))),?_,.p _ _ ?_⟩
     ·simp [Instr.indexAt,asIntOf,run_underlying ht,hcond,oP hn,Sem.run_pure]
     ·rw [hadd]
      refine .pptr _ b _ (fun j=>V (n.toNat*sz'+j)) ?_ ?_ ?_
      ·intro j v hj;rw [←hH _ j row v hrow hj];congr 1;omega
      ·intro j v hj;exact hk _ j row v hrow hj
      ·intro j v hj;exact hV _ j row v hrow hj
   ·cases hb
  ·cases hb
 ·rename_i id off len sz' k n
  have:=hy.qE;subst this
  split at hb <;> simp only [ah5,reduceCtorEq] at hb
  rename_i hc
  obtain⟨h0,hlt,rfl⟩:=hc
  subst hb
  obtain⟨a,cap,rfl,hlc,ha⟩:=hx.vN
  obtain⟨rfl,hlv⟩:=ha (by omega)
  refine⟨.pointer (some (Addr.add ⟨G.nY id,off,none⟩ (n.toNat*sz'))),?_,?_⟩
  ·simp [Instr.indexAt,asIntOf,run_underlying ht,h0,hlt,oP hn,Sem.run_pure]
  ·rw [hadd];exact .ptr _ _ hlv
 ·rename_i id tot off len sz' k n
  have:=hy.qE;subst this
  split at hb <;> simp only [ah5,reduceCtorEq] at hb
  rename_i hc
  obtain⟨h0,hlt,rfl⟩:=hc
  subst hb
  obtain⟨b,cap,rfl,hnf,htot,hlc,hv⟩:=hx.qK
  refine⟨.pointer (some (Addr.add ⟨b,off,none⟩ (n.toNat*sz'))),?_,?_⟩
  ·simp [Instr.indexAt,asIntOf,run_underlying ht,h0,hlt,oP hn,Sem.run_pure]
  ·rw [hadd]
   refine .vptr _ _ _ b hnf htot fun e=>?_
   obtain⟨l0,cap0,h1,_⟩:=hv e
   exact⟨cap0,h1⟩
 ·cases hb
theorem HY {t e:TypeId}{len sz:Nat}(ht:P.underlying t=some (.array len e)) (hn:oO P e=some sz) (hb:xT len sz x y=some v) (hx:mJ G h x X) (hy:mJ G h y Y) :
  ∃V,(Instr.indexAt t X Y).run P w=.ok V w∧mJ G h v V:=by
 have hadd:∀b off k,Addr.add ⟨b,off,none⟩ k=⟨b,off+k,none⟩:=by
  intro b off k;unfold Addr.add;split <;> simp_all
 unfold xT at hb
 split at hb
 ·rename_i id off k n
  have:=hy.qE;subst this
  split at hb <;> simp only [ah5,reduceCtorEq] at hb
  rename_i hc
  subst hb
  obtain⟨rfl,hl⟩:=hx.xF
  refine⟨.pointer (some (Addr.add ⟨G.nY id,off,none⟩ (n.toNat*sz))),?_,?_⟩
  ·simp [Instr.indexAt,asIntOf,run_underlying ht,Instr.sureAddr,hc,oP hn,Sem.run_pure]
  ·rw [hadd];exact .ptr _ _ hl
 ·rename_i cs k n
  have:=hy.qE;subst this
  split at hb <;> simp only [ah5,reduceCtorEq] at hb
  rename_i hc
  subst hb
  have hp:=hx.BL
  cases hp with
  | pptr cs b off V hH hk hV =>
   refine⟨.pointer (some (Addr.add ⟨b,off,none⟩ (n.toNat*sz))),?_,.p _ _ ?_⟩
   ·simp [Instr.indexAt,asIntOf,run_underlying ht,Instr.sureAddr,hc,oP hn,Sem.run_pure]
   ·rw [hadd]
    refine .pptr _ b _ (fun j=>V (n.toNat*sz+j)) ?_ ?_ ?_
    ·intro j v hj;rw [aq4] at hj;rw [←hH _ v hj];congr 1;omega
    ·intro j v hj;rw [aq4] at hj;exact hk _ v hj
    ·intro j v hj;rw [aq4] at hj;exact hV _ v hj
 ·cases hb
end
end
section
open Go Go.RowKit
theorem CR:∀{k1 k2:List Kd}{x y:List lS}{b:Bool},pE (k1++k2) x y=some b →
  ∃p q,pE k1 (x.take k1.length) (y.take k1.length)=some p∧pE k2 (x.drop k1.length) (y.drop k1.length)=some q∧b=(p&&q)
 | [],k2,x,y,b,h=>⟨true,b,by simp [pE],by simpa using h,by simp⟩
 | k::k1,k2,[],y,b,h=>by simp [pE] at h
 | k::k1,k2,_::_,[],b,h=>by simp [pE] at h
 | k::k1,k2,x::xs,y::ys,b,h=>by
  simp only [List.cons_append,pE] at h
  split at h <;> simp only [ah5,reduceCtorEq] at h
  rename_i u v hu hv
  obtain⟨p,q,h1,h2,h3⟩:=CR hv
  exact⟨u&&p,q,by simp [pE,hu,h1],by simpa using h2,by rw [←h,h3,Bool.and_assoc]⟩
theorem HM:∀{ks:List Kd}{x y:List lS}{b:Bool},pE ks x y=some b→x.length=ks.length∧y.length=ks.length
 | [],[],[],_,_=>⟨rfl,rfl⟩
 | [],_::_,_,_,h=>by simp [pE] at h
 | [],[],_::_,_,h=>by simp [pE] at h
 | _::_,[],_,_,h=>by simp [pE] at h
 | _::_,_::_,[],_,h=>by simp [pE] at h
 | k::ks,x::xs,y::ys,b,h=>by
  simp only [pE] at h
  split at h <;> simp only [ah5,reduceCtorEq] at h
  rename_i u v hu hv
  obtain⟨h1,h2⟩:=HM hv
  simp [h1,h2]
def Rep (G:Gh) (h:lT) (g:Bool) (cx:List lS) (X:Value):Prop :=
 match g with
 | true=>∃C:Array Value,X=.agg C∧cx.length=C.size∧∀(i:Nat) (v:lS),cx[i]?=some v→mJ G h v (C.getD i undef)
 | false=>∃c,cx=[c]∧mJ G h c X
section
variable {P:Program}{G:Gh}{h:lT}{w:World}{x y v:lS}{X Y:Value}
theorem Pr {t:TypeId}{g:Bool}{n off:Nat}{cx:List lS}{C:Array Value}(hg:qW P t=some g) (hn:oO P t=some n) (h1:g=false→n=1)
  (hl:cx.length=C.size) (hr:∀(i:Nat) (v:lS),cx[i]?=some v→mJ G h v (C.getD i undef)) (hle:off+n≤cx.length) :
  ∃V,(part t C off).run P w=.ok V w∧Rep G h g ((cx.drop off).take n) V:=by
 cases g with
 | true =>
  obtain⟨V,e1,e2⟩:=yJ (P:=P) (w:=w) (off:=off) (v:=.agg ((cx.drop off).take n)) hg hn (by simp [apart,hle]) hl hr
  exact⟨V,e1,e2.tB⟩
 | false =>
  have:=h1 rfl;subst this
  have hlt:off<cx.length:=by omega
  obtain⟨V,e1,e2⟩:=yJ (P:=P) (w:=w) (off:=off) (v:=cx[off]) hg hn (by simp [apart,hlt]) hl hr
  exact⟨V,e1,cx[off],by rw [List.drop_eq_getElem_cons hlt,List.take_succ_cons,List.take_zero],e2⟩
theorem Bu (P:Program) (G:Gh) (h:lT) (w:World) (d D:Nat)
  (ih:∀(t:TypeId) (ks:List Kd) (g:Bool) (cx cy:List lS) (X Y:Value) (b:Bool),u4 P d t=some ks→qW P t=some g→pE ks cx cy=some b →
   Rep G h g cx X→Rep G h g cy Y→(Op.equalIn D t X Y).run P w=.ok b w)
  {cx cy:List lS}{C E:Array Value}(hlx:cx.length=C.size) (hrx:∀(i:Nat) (v:lS),cx[i]?=some v→mJ G h v (C.getD i undef))
  (hly:cy.length=E.size) (hry:∀(i:Nat) (v:lS),cy[i]?=some v→mJ G h v (E.getD i undef)) :
  ∀(fs:List Field) (off:Nat) (ks:List Kd) (b:Bool),zV P (u4 P d) fs off=some ks→pE ks (cx.drop off) (cy.drop off)=some b →
   (Op.eqFields D C E fs).run P w=.ok b w
 | [],off,ks,b,hk,hb=>by
  simp only [zV,ah5] at hk;subst hk
  have:b=true:=by
   generalize cx.drop off=a at hb;generalize cy.drop off=c at hb
   cases a <;> cases c <;> simp_all [pE]
  subst this
  simp [Op.eqFields,Sem.run_pure]
 | f::fs,off,ks,b,hk,hb=>by
  simp only [zV] at hk
  cases hnm:(f.name == "_" || f.offset != off) with
  | true=>simp [hnm] at hk
  | false =>
   simp only [hnm,cond_false] at hk
   simp only [Bool.or_eq_false_iff,beq_eq_false_iff_ne,bne_eq_false_iff_eq] at hnm
   obtain⟨hname,hoff⟩:=hnm
   split at hk
   ·rename_i k1 hk1
    cases hsz:(oO P f.type == some k1.length&&k1.length != 0) with
    | false=>simp [hsz] at hk
    | true =>
     simp only [hsz,cond_true] at hk
     simp only [Bool.and_eq_true,beq_iff_eq,bne_iff_ne,ne_eq] at hsz
     obtain⟨hsz,hne⟩:=hsz
     split at hk <;> simp only [ah5,reduceCtorEq] at hk
     rename_i k2 hk2
     subst hk
     obtain⟨p,q,e1,e2,rfl⟩:=CR hb
     obtain⟨l1,l2⟩:=HM e1
     obtain⟨g,hg⟩:∃g,qW P f.type=some g:=by
      unfold qW
      cases d with
      | zero=>simp [u4] at hk1
      | succ d =>
       simp only [u4] at hk1
       cases hu:P.underlying f.type with
       | none=>simp [hu] at hk1
       | some dd=>cases dd <;> simp
     have h1:g=false→k1.length=1:=by
      intro hgf;subst hgf
      cases d with
      | zero=>simp [u4] at hk1
      | succ d =>
       simp only [u4] at hk1
       unfold qW at hg
       cases hu:P.underlying f.type with
       | none=>simp [hu] at hk1
       | some dd=>cases dd <;> simp_all <;> subst hk1 <;> rfl
     have lx:off+k1.length≤cx.length:=by rw [ar6,List.length_drop] at l1;omega
     have ly:off+k1.length≤cy.length:=by rw [ar6,List.length_drop] at l2;omega
     obtain⟨V1,p1,r1⟩:=Pr (w:=w) (off:=off) hg hsz h1 hlx hrx lx
     obtain⟨V2,p2,r2⟩:=Pr (w:=w) (off:=off) hg hsz h1 hly hry ly
     have he:=ih f.type k1 g _ _ V1 V2 p hk1 hg e1 r1 r2
     have hrest:=Bu P G h w d D ih hlx hrx hly hry fs (off+k1.length) k2 q hk2 (by simpa [List.drop_drop] using e2)
     simp only [Op.eqFields,hoff,ne_eq,hname,not_false_eq_true,if_true,Sem.run_bind,p1,p2,he,Result.andThen_ok,Sem.run_ite]
     cases p <;> simp [Sem.run_pure,hrest]
   ·cases hk
theorem CV (P:Program) (G:Gh) (h:lT) (w:World):∀(d D:Nat),d≤D→∀(t:TypeId) (ks:List Kd) (g:Bool) (cx cy:List lS) (X Y:Value) (b:Bool),
  u4 P d t=some ks→qW P t=some g→pE ks cx cy=some b→Rep G h g cx X→Rep G h g cy Y→(Op.equalIn D t X Y).run P w=.ok b w
 | 0,_,_,_,_,_,_,_,_,_,_,hk,_,_,_,_=>by simp [u4] at hk
 | d+1,0,hd,_,_,_,_,_,_,_,_,_,_,_,_,_=>by omega
 | d+1,D+1,hd,t,ks,g,cx,cy,X,Y,b,hk,hg,hb,hx,hy=>by
  simp only [u4] at hk
  have scal:g=false→∀k,ks=[k]→∃c c',cx=[c]∧cy=[c']∧mJ G h c X∧mJ G h c' Y∧yG k c c'=some b:=by
   intro hgf k hks;subst hgf;subst hks
   obtain⟨c,rfl,hc⟩:=hx
   obtain⟨c',rfl,hc'⟩:=hy
   refine⟨c,c',rfl,rfl,hc,hc',?_⟩
   simp only [pE] at hb
   split at hb <;> simp_all
  split at hk
  ·rename_i hu
   have hgf:g=false:=by simpa [qW,hu] using hg.symm
   obtain⟨c,c',rfl,rfl,hc,hc',he⟩:=scal hgf .b (by simpa using hk.symm)
   unfold yG at he
   split at he <;> simp_all
   have:=hc.uX;subst this
   have:=hc'.uX;subst this
   rw [run_equalIn_bool hu D];simp_all
  ·rename_i k0 hu
   have hgf:g=false:=by simpa [qW,hu] using hg.symm
   obtain⟨c,c',rfl,rfl,hc,hc',he⟩:=scal hgf .i (by simpa using hk.symm)
   unfold yG at he
   split at he
   ·rename_i k a k' a'
    split at he <;> simp only [ah5,reduceCtorEq] at he
    rename_i hkk;subst hkk;subst he
    have:=hc.qE;subst this
    have:=hc'.qE;subst this
    exact run_equalIn_int w D t _ _ _ _ hu
   ·simp_all
   ·simp_all
   ·cases he
  ·rename_i hu
   have hgf:g=false:=by simpa [qW,hu] using hg.symm
   obtain⟨c,c',rfl,rfl,hc,hc',he⟩:=scal hgf .s (by simpa using hk.symm)
   cases c <;> cases c' <;> simp only [yG,ah5,reduceCtorEq] at he
   rename_i a a'
   subst he
   have:=hc.xH;subst this
   have:=hc'.xH;subst this
   have:=run_equalIn_string (P:=P) w D t ⟨a.toArray⟩ ⟨a'.toArray⟩ hu
   simpa using this
  ·rename_i fs hu
   have hgt:g=true:=by simpa [qW,hu] using hg.symm
   subst hgt
   cases hst:P.stoodInHeld t with
   | true=>simp [hst] at hk
   | false =>
    simp only [hst,cond_false] at hk
    obtain⟨C,rfl,hlx,hrx⟩:=hx
    obtain⟨E,rfl,hly,hry⟩:=hy
    have hfo:P.fieldsOf t=fs:=by simp [Program.fieldsOf,hu]
    rw [run_equalIn_struct w D t C E (by rw [hfo];exact hu) hst,hfo]
    exact Bu P G h w d D (fun t ks g cx cy X Y b=>CV P G h w d D (by omega) t ks g cx cy X Y b) hlx hrx hly hry fs.toList 0 ks b hk (by simpa using hb)
  ·cases hk
theorem Gc {t:TypeId}{ks:List Kd}{b:Bool}{fs:Array Field}(ht:P.underlying t=some (.struct fs)) (hk:DZ P t=some ks) (xo yo:Operand)
  (hb:qD ks x y=some b) (hx:mJ G h x X) (hy:mJ G h y Y) :
  (do eqGuard .eql t xo yo X Y;binOp .eql t X Y:Sem Value).run P w=.ok (.bool b) w∧(do eqGuard .neq t xo yo X Y;binOp .neq t X Y:Sem Value).run P w=.ok (.bool (!b)) w:=by
 unfold DZ at hk
 split at hk
 ·rename_i ks' hks
  cases hm:P.eqGuardType P.depth t with
  | true=>simp [hm] at hk
  | false =>
   simp only [hm,cond_false,ah5] at hk;subst hk
   unfold qD at hb
   split at hb
   ·obtain⟨C,rfl,hlx,hrx⟩:=hx.tB
    obtain⟨E,rfl,hly,hry⟩:=hy.tB
    have he:=CV P G h w 12 10000 (by omega) t ks' true _ _ (.agg C) (.agg E) b hks (by simp [qW,ht]) hb ⟨C,rfl,hlx,hrx⟩ ⟨E,rfl,hly,hry⟩
    constructor
    ·simp only [Sem.run_bind,run_eqGuard_agg w .eql t xo yo C E hm,Result.andThen_ok,run_eql_struct,he]
    ·simp only [Sem.run_bind,run_eqGuard_agg w .neq t xo yo C E hm,Result.andThen_ok,run_neq_struct,he]
   ·cases hb
 ·cases hk
end
end
section
open Go Go.RowKit
def nR (G:Gh) (id:Nat):mT→Option Nat
 | .cells _ | .map _ | .tcells _ _=>some (G.nY id)
 | .front _ _ _ | .vec _ _ _=>(G.cur id).ownBlock
 | _=>none
theorem oC {G:Gh}{h:lT}{id:Nat}{bl:mT}(hb:h[id]?=some bl):owner G h id=nR G id bl:=by
 unfold owner;rw [hb];cases bl <;> rfl
theorem pN {G:Gh}{h:lT}{id b:Nat}(ho:owner G h id=some b):∃bl,h[id]?=some bl∧nR G id bl=some b:=by
 cases hb:h[id]? with
 | none=>simp [owner,hb] at ho
 | some bl=>exact⟨bl,rfl,by rw [←oC hb];exact ho⟩
theorem wU.lt {G:Gh}{h:lT}{w:World}{id b:Nat}{bl:mT}(hk:wU G h w id bl) (ho:nR G id bl=some b):b<w.heap.size:=by
 have aux:∀{o:Obj},w.heap[b]?=some o→b<w.heap.size:=fun h=>(Array.getElem?_eq_some_iff.1 h).1
 cases bl with
 | free=>cases ho
 | gone=>cases ho
 | cells cs=>obtain⟨C,e,h1,_⟩:=hk;cases ho;exact aux h1
 | tcells t cs=>obtain⟨C,h1,_⟩:=hk;cases ho;exact aux h1
 | map es=>obtain⟨E,c,h1,_⟩:=hk;cases ho;exact aux h1
 | front n sz t =>
  rcases hk with ⟨_,h1⟩ | ⟨b',cap,C,e,h1,h2,_⟩
  ·simp [nR,h1,Value.ownBlock] at ho
  ·simp [nR,h1,Value.ownBlock] at ho;subst ho;exact aux h2
 | vec tot sz cs =>
  obtain⟨b',cap,C,e,h1,h2,_⟩:=hk
  simp [nR,h1,Value.ownBlock] at ho;subst ho;exact aux h2
theorem Inv.lt {G:Gh}{h:lT}{w:World}(i:Inv G h w) {id b:Nat}(ho:owner G h id=some b):b<w.heap.size:=by
 obtain⟨bl,hb,hob⟩:=pN ho
 exact(i.nY id bl hb).lt hob
theorem wU.IF {G G':Gh}{h h':lT}{w w':World}{id:Nat}{bl:mT}(m:CG G h G' h') (hblk:G'.nY id=G.nY id) (hcur:G'.cur id=G.cur id)
  (hh:∀b,nR G id bl=some b→w'.heap[b]?=w.heap[b]?∧∀k,G'.H b k=G.H b k) (hk:wU G h w id bl):wU G' h' w' id bl:=by
 cases bl with
 | free=>trivial
 | gone=>trivial
 | cells cs =>
  obtain⟨C,e,h1,h2,h3,h4⟩:=hk
  obtain⟨e1,e2⟩:=hh _ rfl
  exact⟨C,e,by rw [hblk,e1,h1],h2,fun k=>by rw [hblk,e2,h3],fun i v hv=>⟨(h4 i v hv).1,(h4 i v hv).2.mono m⟩⟩
 | tcells t cs =>
  obtain⟨C,h1,h2,h3,h4⟩:=hk
  obtain⟨e1,e2⟩:=hh _ rfl
  exact⟨C,by rw [hblk,e1,h1],h2,fun k=>by rw [hblk,e2,h3],fun i v hv=>⟨(h4 i v hv).1,(h4 i v hv).2.mono m⟩⟩
 | map es =>
  obtain⟨E,c,h1,h2,h3,h4,h5⟩:=hk
  obtain⟨e1,e2⟩:=hh _ rfl
  refine⟨E,c,by rw [hblk,e1,h1],h2,fun k=>by rw [hblk,e2,h3],fun i kv hv=>?_,h5⟩
  obtain⟨mm,a1,a2,a3,a4⟩:=h4 i kv hv
  exact⟨mm,a1,a2,a3.mono m.hmono,a4.mono m⟩
 | front n sz t =>
  rcases hk with ⟨h0,h1⟩ | ⟨b,cap,C,e,h1,h2,h3,h4,h5,h50,h6,h7⟩
  ·exact .inl ⟨h0,by rw [hcur,h1]⟩
  ·obtain⟨e1,e2⟩:=hh b (by simp [nR,h1,Value.ownBlock])
   exact .inr ⟨b,cap,C,e,by rw [hcur,h1],by rw [e1,h2],h3,h4,h5,h50,fun k hk=>by rw [e2,h6 k hk],h7⟩
 | vec tot sz cs =>
  obtain⟨b,cap,C,e,h1,h2,h3,h4,h5,h6,h7,h8,h9⟩:=hk
  obtain⟨e1,e2⟩:=hh b (by simp [nR,h1,Value.ownBlock])
  exact⟨b,cap,C,e,by rw [hcur,h1],by rw [e1,h2],h3,h4,h5,h6,h7,fun k=>by rw [e2,h8 k],fun i v hv=>⟨(h9 i v hv).1,(h9 i v hv).2.mono m⟩⟩
theorem Inv.push {G G':Gh}{h:lT}{ext:List mT}{w w':World}(i:Inv G h w)
  (os:w'.os=w.os) (tape:w'.tape=w.tape) (output:w'.output=w.output) (size:w.heap.size≤w'.heap.size)
  (heap:∀k,k<w.heap.size→w'.heap[k]?=w.heap[k]?)
  (gblk:∀id,id<h.length→G'.nY id=G.nY id) (gcur:∀id,id<h.length→G'.cur id=G.cur id)
  (hH:∀b k v,G.H b k=some v→G'.H b k=some v) (hHold:∀b k,b<w.heap.size→G'.H b k=G.H b k)
  (hok:∀b k v,w.heap.size≤b→G'.H b k=some v→w'.cell? ⟨b,k,none⟩=some v)
  (hnew:∀j bl,ext[j]?=some bl→CG G h G' (h++ext)→wU G' (h++ext) w' (h.length+j) bl)
  (hown:∀j bl b,ext[j]?=some bl→nR G' (h.length+j) bl=some b→w.heap.size≤b)
  (hinj:∀j j' bl bl' b,ext[j]?=some bl→ext[j']?=some bl'→nR G' (h.length+j) bl=some b→nR G' (h.length+j') bl'=some b→j=j') :
  Inv G' (h++ext) w'∧Ext G h w G' (h++ext) w':=by
 have m:CG G h G' (h++ext):=⟨hH,fun id bl hb=>by
  have hlt:id<h.length:=(ag0.1 hb).1
  refine⟨bl,by rw [aq3 hlt];exact hb,?_⟩
  have e1:=gblk id hlt
  have e2:=gcur id hlt
  cases bl <;> simp [Kind,e1,e2]⟩
 have hget:∀id bl,(h++ext)[id]?=some bl→(id<h.length∧h[id]?=some bl)∨(h.length≤id∧ext[id-h.length]?=some bl):=by
  intro id bl hb
  by_cases hlt:id<h.length
  ·rw [aq3 hlt] at hb;exact .inl ⟨hlt,hb⟩
  ·rw [ak0 (by omega)] at hb;exact .inr ⟨by omega,hb⟩
 have own:∀id b,owner G' (h++ext) id=some b→(id<h.length∧owner G h id=some b)∨(h.length≤id∧w.heap.size≤b∧∃bl,ext[id-h.length]?=some bl∧nR G' id bl=some b):=by
  intro id b ho
  obtain⟨bl,hb,hob⟩:=pN ho
  rcases hget id bl hb with ⟨hlt,h1⟩ | ⟨hge,h1⟩
  ·refine .inl ⟨hlt,?_⟩
   rw [oC h1]
   cases bl <;> simp_all [nR]
  ·have he:h.length+(id-h.length)=id:=by omega
   exact .inr ⟨hge,hown _ bl b h1 (by rw [he];exact hob),bl,h1,hob⟩
 refine⟨⟨?_,?_,?_⟩,⟨os,tape,output,size,fun b hb _=>⟨heap b hb,fun k=>hHold b k hb⟩,hH,?_,m.kinds⟩⟩
 ·intro b k v hv
  by_cases hb:b<w.heap.size
  ·rw [hHold b k hb] at hv
   rw [World.cell?_of_block (w:=w) (heap b hb)]
   exact i.ok b k v hv
  ·exact hok b k v (by omega) hv
 ·intro id bl hb
  rcases hget id bl hb with ⟨hlt,h1⟩ | ⟨hge,h1⟩
  ·refine(i.nY id bl h1).IF m (gblk id hlt) (gcur id hlt) fun b ho=>?_
   have hb:=(i.nY id bl h1).lt ho
   exact⟨heap b hb,fun k=>hHold b k hb⟩
  ·have:=hnew (id-h.length) bl h1 m
   rwa [show h.length+(id-h.length)=id by omega] at this
 ·intro x y b hx hy
  rcases own x b hx with ⟨_,h1⟩ | ⟨hx1,hx2,bl,hx3,hx4⟩ <;> rcases own y b hy with ⟨_,h2⟩ | ⟨hy1,hy2,bl',hy3,hy4⟩
  ·exact i.inj x y b h1 h2
  ·have:=i.lt h1;omega
  ·have:=i.lt h2;omega
  ·have:=hinj (x-h.length) (y-h.length) bl bl' b hx3 hy3 (by rw [show h.length+(x-h.length)=x by omega];exact hx4) (by rw [show h.length+(y-h.length)=y by omega];exact hy4)
   omega
 ·intro id b ho hb
  rcases own id b ho with ⟨_,h1⟩ | ⟨_,h2,_⟩
  ·exact h1
  ·omega
theorem Inv.step {G G':Gh}{h:lT}{w w':World}(i:Inv G h w) (id:Nat) (old new:mT) (hold:h[id]?=some old)
  (os:w'.os=w.os) (tape:w'.tape=w.tape) (output:w'.output=w.output) (size:w.heap.size≤w'.heap.size)
  (heap:∀k,k<w.heap.size→nR G id old≠some k→w'.heap[k]?=w.heap[k]?)
  (gblk:∀j,j≠id→G'.nY j=G.nY j) (gcur:∀j,j≠id→G'.cur j=G.cur j)
  (hH:∀b k v,G.H b k=some v→G'.H b k=some v) (hHold:∀b k,b<w.heap.size→nR G id old≠some b→G'.H b k=G.H b k)
  (hok:∀b k v,(w.heap.size≤b∨nR G id old=some b)→G'.H b k=some v→w'.cell? ⟨b,k,none⟩=some v)
  (hkind:Kind G G' id old new)
  (hnew:CG G h G' (h.set id new)→wU G' (h.set id new) w' id new)
  (hown:∀b,nR G' id new=some b→w.heap.size≤b∨nR G id old=some b) :
  Inv G' (h.set id new) w'∧Ext G h w G' (h.set id new) w':=by
 have hlt:id<h.length:=(ag0.1 hold).1
 have hsame:(h.set id new)[id]?=some new:=by simp [hlt]
 have hne:∀j,j≠id→(h.set id new)[j]?=h[j]?:=fun j hj=>List.getElem?_set_ne (Ne.symm hj)
 have m:CG G h G' (h.set id new):=⟨hH,fun j bl hb=>by
  by_cases hj:j=id
  ·subst hj;rw [hold] at hb;cases hb;exact⟨new,hsame,hkind⟩
  ·refine⟨bl,by rw [hne j hj];exact hb,?_⟩
   have e1:=gblk j hj
   have e2:=gcur j hj
   cases bl <;> simp [Kind,e1,e2]⟩
 have own:∀j b,owner G' (h.set id new) j=some b→(j≠id∧owner G h j=some b)∨(j=id∧(w.heap.size≤b∨owner G h id=some b)):=by
  intro j b ho
  by_cases hj:j=id
  ·subst hj
   rw [oC hsame] at ho
   exact .inr ⟨rfl,by rw [oC hold];exact hown b ho⟩
  ·refine .inl ⟨hj,?_⟩
   obtain⟨bl,hb,hob⟩:=pN ho
   rw [hne j hj] at hb
   rw [oC hb]
   have e1:=gblk j hj
   have e2:=gcur j hj
   cases bl <;> simp_all [nR]
 refine⟨⟨?_,?_,?_⟩,⟨os,tape,output,size,fun b hb hn=>?_,hH,?_,m.kinds⟩⟩
 ·intro b k v hv
  by_cases hb:b<w.heap.size∧nR G id old≠some b
  ·rw [hHold b k hb.1 hb.2] at hv
   rw [World.cell?_of_block (w:=w) (heap b hb.1 hb.2)]
   exact i.ok b k v hv
  ·refine hok b k v ?_ hv
   by_cases h1:w.heap.size≤b
   ·exact .inl h1
   ·exact .inr (Classical.byContradiction fun h2=>hb ⟨by omega,h2⟩)
 ·intro j bl hb
  by_cases hj:j=id
  ·subst hj;rw [hsame] at hb;cases hb;exact hnew m
  ·rw [hne j hj] at hb
   refine(i.nY j bl hb).IF m (gblk j hj) (gcur j hj) fun b ho=>?_
   have h1:=(i.nY j bl hb).lt ho
   have h2:nR G id old≠some b:=fun e=>hj (i.inj j id b (by rw [oC hb];exact ho) (by rw [oC hold];exact e))
   exact⟨heap b h1 h2,fun k=>hHold b k h1 h2⟩
 ·intro x y b hx hy
  rcases own x b hx with ⟨hx1,h1⟩ | ⟨rfl,h1⟩ <;> rcases own y b hy with ⟨hy1,h2⟩ | ⟨rfl,h2⟩
  ·exact i.inj x y b h1 h2
  ·rcases h2 with h2 | h2
   ·have:=i.lt h1;omega
   ·exact i.inj x y b h1 h2
  ·rcases h1 with h1 | h1
   ·have:=i.lt h2;omega
   ·exact i.inj x y b h1 h2
  ·rfl
 ·have:nR G id old≠some b:=fun e=>hn id (by rw [oC hold];exact e)
  exact⟨heap b hb this,fun k=>hHold b k hb this⟩
 ·intro j b ho hb
  rcases own j b ho with ⟨_,h1⟩ | ⟨rfl,h1 | h1⟩
  ·exact h1
  ·omega
  ·exact h1
end
section
open Go Go.RowKit
theorem add_plain (b off k:Nat):Addr.add ⟨b,off,none⟩ k=⟨b,off+k,none⟩:=by unfold Addr.add;split <;> simp_all
theorem rP {h:lT}{id tot:Nat}{x:Nat×List lS}(hg:oQ h id tot=some x):h[id]?=some (.vec tot x.1 x.2):=by
 unfold oQ at hg
 split at hg
 ·rename_i tot' sz cs hid
  split at hg
  ·rename_i he;cases hg;rw [hid,he]
  ·cases hg
 ·cases hg
theorem Gf {h:lT}{id:Nat}{cs:List lS}(hg:oX h id=some cs):h[id]?=some (.cells cs):=by
 unfold oX at hg
 split at hg <;> simp_all
section
variable {P:Program}{G:Gh}{h:lT}{w:World}{x y v:lS}{X Y V:Value}
theorem cell_of (w:World) (g i:Nat) {C:Array Value}{t:TypeId}{fr:Nat×Nat}(hg:w.heap[g]?=some (.cells C t fr)):w.cell? ⟨g,i,none⟩=C[i]?:=by
 simp [World.cell?,hg]
theorem AP {t:TypeId}{g:Bool}{n:Nat}(hg:qW P t=some g) (hn:oO P t=some n) (b o:Nat) (cs:List lS) (off:Nat) (F:Nat→Value)
  (hb:apart g n cs off=some v) (hc:∀(j:Nat) (u:lS),cs[j]?=some u→off≤j→w.cell? ⟨b,o+(j-off),none⟩=some (F j)∧mJ G h u (F j)) :
  ∃V,(loadVar t ⟨b,o,none⟩).run P w=.ok V w∧mJ G h v V:=by
 unfold apart at hb
 cases g with
 | true =>
  simp only [cond_true] at hb
  split at hb <;> simp only [ah5,reduceCtorEq] at hb
  rename_i hle
  subst hb
  have hl:=run_loadCells (P:=P) w ⟨b,o,none⟩ n (fun j=>F (off+j)) (fun j hj=>by
   have hj':cs[off+j]?=some cs[off+j]:=ag8 (by omega)
   have:=(hc (off+j) _ hj' (by omega)).1
   rw [add_plain]
   rwa [show off+j-off=j by omega] at this)
  refine⟨.agg ((ar9 n).map fun j=>F (off+j)).toArray,?_,.agg _ _ ?_ ?_⟩
  ·simp [loadVar,Dv hg,oP hn,hl,Sem.run_pure]
  ·simp;omega
  ·intro i u hu
   rw [ar0] at hu
   split at hu
   ·rename_i hi
    rw [aq4] at hu
    have:=(hc (off+i) u hu (by omega)).2
    simpa [aj5,hi] using this
   ·cases hu
 | false =>
  simp only [cond_false] at hb
  obtain⟨h1,h2⟩:=hc off v hb (ak5 _)
  refine⟨F off,?_,h2⟩
  rw [Nat.sub_self,aA4] at h1
  simp [loadVar,Dv hg,run_load,h1]
theorem F4 {t:TypeId}{g:Bool}{n:Nat}(hg:qW P t=some g) (hn:oO P t=some n) (i:Inv G h w) (hb:mF g n h x=some v) (hx:mJ G h x X) :
  ∃V,(Instr.loadAt t X).run P w=.ok V w∧mJ G h v V:=by
 unfold mF at hb
 split at hb
 ·rename_i cs
  have hp:=hx.BL
  cases hp with
  | pptr cs b off F hH hk hV =>
   obtain⟨V,h1,h2⟩:=AP (P:=P) (G:=G) (h:=h) (w:=w) hg hn b off cs 0 F hb (fun j u hu _=>⟨i.ok _ _ _ (hH j u hu),.p _ _ (hV j u hu)⟩)
   exact⟨V,by simp [Instr.loadAt,Instr.sureAddr,h1],h2⟩
 ·rename_i id off
  split at hb
  ·rename_i cs hgb
   unfold oX at hgb
   split at hgb <;> simp only [ah5,reduceCtorEq] at hgb
   rename_i cs' hid
   subst hgb
   obtain⟨rfl,_⟩:=hx.xF
   obtain⟨C,e,h1,h2,h3,h4⟩:=i.nY id _ hid
   obtain⟨V,r1,r2⟩:=AP (P:=P) (G:=G) (h:=h) (w:=w) hg hn (G.nY id) off cs' off (fun j=>C.getD j undef) hb (fun j u hu hj=>by
    have hlt:j<C.size:=by rw [h2];exact(ag0.1 hu).1
    refine⟨?_,(h4 j u hu).2⟩
    rw [cell_of w _ _ h1,show off+(j-off)=j by omega,Array.getElem?_eq_getElem hlt]
    simp [aj5,hlt])
   exact⟨V,by simp [Instr.loadAt,Instr.sureAddr,r1],r2⟩
  ·cases hb
 ·rename_i id tot off
  split at hb
  ·rename_i x hgb
   have hid:=rP hgb
   obtain⟨tot,hX,h1,h2,h3⟩:=hx.B6
   obtain⟨b,cap,C,e,g1,g2,g3,g4,g5,g6,g7,g8,g9⟩:=i.nY id _ hid
   obtain⟨cap0,h4⟩:=h3 (by rw [g1];rfl)
   rw [g1] at h4
   simp only [Value.slice.injEq,ah5,Addr.mk.injEq] at h4
   obtain⟨⟨rfl,_⟩,_,rfl⟩:=h4
   subst hX
   obtain⟨V,r1,r2⟩:=AP (P:=P) (G:=G) (h:=h) (w:=w) hg hn b off x.2 off (fun j=>C.getD j undef) hb (fun j u hu hj=>by
    have hlt:j<C.size:=by
     have:=(ag0.1 hu).1
     rw [g5]
     exact Nat.lt_of_lt_of_le (by rw [g7] at this;exact this) (as0 _ g3)
    refine⟨?_,(g9 j u hu).2⟩
    rw [cell_of w _ _ g2,show off+(j-off)=j by omega,Array.getElem?_eq_getElem hlt]
    simp [aj5,hlt])
   exact⟨V,by simp [Instr.loadAt,Instr.sureAddr,r1],r2⟩
  ·cases hb
 ·cases hb
theorem qX (cs vs:List lS) (off:Nat) (h:off+vs.length≤cs.length):(putCells cs off vs).length=cs.length:=by
 simp [putCells];omega
theorem sV (cs vs:List lS) (off i:Nat) (h:off+vs.length≤cs.length) :
  (putCells cs off vs)[i]?=if i<off then cs[i]? else if i<off+vs.length then vs[i-off]? else cs[i]?:=by
 unfold putCells
 by_cases h1:i<off
 ·rw [if_pos h1,aw8,aq3 (by simp;omega),ar0,if_pos h1]
 ·rw [if_neg h1,aw8,ak0 (by simp;omega)]
  simp only [ar6]
  rw [Nat.min_eq_left (by omega)]
  by_cases h2:i<off+vs.length
  ·rw [if_pos h2,aq3 (by omega)]
  ·rw [if_neg h2,ak0 (by omega),aq4]
   congr 1;omega
theorem rK (C:Array Value) (U:List Value) (off i:Nat) (h:off+U.length≤C.size) :
  (C.toList.take off++U++C.toList.drop (off+U.length)).toArray[i]?=if i<off then C[i]? else if i<off+U.length then U[i-off]? else C[i]?:=by
 rw [List.getElem?_toArray]
 by_cases h1:i<off
 ·rw [if_pos h1,aw8,aq3 (by simp;omega),ar0,if_pos h1,aq2]
 ·rw [if_neg h1,aw8,ak0 (by simp;omega)]
  simp only [ar6,av9]
  rw [Nat.min_eq_left (by omega)]
  by_cases h2:i<off+U.length
  ·rw [if_pos h2,aq3 (by omega)]
  ·rw [if_neg h2,ak0 (by omega),aq4,aq2]
   congr 1;omega
theorem Inv.write (i:Inv G h w) {id off:Nat}{cs vs:List lS}{C:Array Value}{e:TypeId}{U:List Value}(hid:h[id]?=some (.cells cs))
  (hC:w.heap[G.nY id]?=some (.cells C e (0,0))) (hle:off+vs.length≤cs.length) (hU:U.length=vs.length)
  (hrel:∀(j:Nat) (u:lS),vs[j]?=some u→u.mZ=true∧mJ G h u (U.getD j undef)) :
  Inv G (h.set id (.cells (putCells cs off vs))) (w.setRow (G.nY id) (C.toList.take off++U++C.toList.drop (off+U.length)).toArray) ∧
   Ext G h w G (h.set id (.cells (putCells cs off vs))) (w.setRow (G.nY id) (C.toList.take off++U++C.toList.drop (off+U.length)).toArray):=by
 obtain⟨C',e',h1,h2,h3,h4⟩:=i.nY id _ hid
 rw [hC] at h1
 simp only [ah5,Obj.cells.injEq] at h1
 obtain⟨rfl,rfl,_⟩:=h1
 refine i.step id (.cells cs) _ hid (by simp) (by simp) (by simp) (by simp) ?_ (fun _ _=>rfl) (fun _ _=>rfl) (fun _ _ _ hh=>hh) (fun _ _ _ _=>rfl) ?_ ?_ ?_ ?_
 ·intro k _ hk
  exact setRow_other w _ k _ (fun e=>hk (by simp [nR,e]))
 ·intro b k v hb hv
  rcases hb with hb | hb
  ·have:=i.ok b k v hv
   have hlt:b<w.heap.size:=by
    unfold World.cell? at this
    cases hh:w.heap[b]? with
    | none=>simp [hh] at this
    | some o=>exact(Array.getElem?_eq_some_iff.1 hh).1
   omega
  ·simp only [nR,ah5] at hb
   subst hb
   rw [h3] at hv;cases hv
 ·exact⟨(qX cs vs off hle).symm,rfl,rfl⟩
 ·intro m
  have hoff:off+U.length≤C.size:=by rw [hU,h2];exact hle
  refine⟨_,e,setRow_heap w _ C _ e _ hC,?_,h3,fun j u hu=>?_⟩
  ·rw [qX cs vs off hle];simp;omega
  ·rw [sV cs vs off j hle] at hu
   rw [aj5,rK C U off j hoff]
   split at hu
   ·rename_i hj
    rw [if_pos hj]
    exact⟨(h4 j u hu).1,by have:=(h4 j u hu).2.mono m;rwa [aj5] at this⟩
   ·rename_i hj
    rw [if_neg hj]
    split at hu
    ·rename_i hj2
     rw [if_pos (by rw [hU];exact hj2)]
     obtain⟨a1,a2⟩:=hrel _ u hu
     refine⟨a1,?_⟩
     have:=a2.mono m
     rwa [ah6] at this
    ·rename_i hj2
     rw [if_neg (by rw [hU];exact hj2)]
     exact⟨(h4 j u hu).1,by have:=(h4 j u hu).2.mono m;rwa [aj5] at this⟩
 ·intro b hb
  exact .inr hb
theorem Inv.JU (i:Inv G h w) {id tot sz off b cap:Nat}{cs vs:List lS}{C:Array Value}{e:TypeId}{U:List Value}(hid:h[id]?=some (.vec tot sz cs))
  (hcur:G.cur id=.slice (some ⟨b,0,none⟩) tot cap) (hC:w.heap[b]?=some (.cells C e (0,0))) (hle:off+vs.length≤cs.length) (hU:U.length=vs.length)
  (hrel:∀(j:Nat) (u:lS),vs[j]?=some u→u.mZ=true∧mJ G h u (U.getD j undef)) :
  Inv G (h.set id (.vec tot sz (putCells cs off vs))) (w.setRow b (C.toList.take off++U++C.toList.drop (off+U.length)).toArray) ∧
   Ext G h w G (h.set id (.vec tot sz (putCells cs off vs))) (w.setRow b (C.toList.take off++U++C.toList.drop (off+U.length)).toArray):=by
 obtain⟨b',cap',C',e',g1,g2,g3,g4,g5,g6,g7,g8,g9⟩:=i.nY id _ hid
 rw [hcur] at g1
 simp only [Value.slice.injEq,ah5,Addr.mk.injEq] at g1
 obtain⟨⟨rfl,_⟩,_,rfl⟩:=g1
 rw [hC] at g2
 simp only [ah5,Obj.cells.injEq] at g2
 obtain⟨rfl,rfl,_⟩:=g2
 have hown:nR G id (.vec tot sz cs)=some b:=by simp [nR,hcur,Value.ownBlock]
 have hcl:cs.length≤C.size:=by rw [g7,g5];exact as0 _ g3
 refine i.step id (.vec tot sz cs) _ hid (by simp) (by simp) (by simp) (by simp) ?_ (fun _ _=>rfl) (fun _ _=>rfl) (fun _ _ _ hh=>hh) (fun _ _ _ _=>rfl) ?_ ?_ ?_ ?_
 ·intro k _ hk
  exact setRow_other w _ k _ (fun e=>hk (by rw [hown,e]))
 ·intro b' k v hb hv
  rcases hb with hb | hb
  ·have:=i.ok b' k v hv
   have hlt:b'<w.heap.size:=by
    unfold World.cell? at this
    cases hh:w.heap[b']? with
    | none=>simp [hh] at this
    | some o=>exact(Array.getElem?_eq_some_iff.1 hh).1
   omega
  ·rw [hown] at hb
   cases hb
   rw [g8] at hv;cases hv
 ·exact⟨rfl,ak5 _,fun _=>rfl⟩
 ·intro m
  have hoff:off+U.length≤C.size:=by omega
  refine⟨b,cap,_,e,hcur,setRow_heap w _ C _ e _ hC,g3,g4,by simp;omega,g6,by rw [qX cs vs off hle];exact g7,g8,fun j u hu=>?_⟩
  rw [sV cs vs off j hle] at hu
  rw [aj5,rK C U off j hoff]
  split at hu
  ·rename_i hj
   rw [if_pos hj]
   exact⟨(g9 j u hu).1,by have:=(g9 j u hu).2.mono m;rwa [aj5] at this⟩
  ·rename_i hj
   rw [if_neg hj]
   split at hu
   ·rename_i hj2
    rw [if_pos (by rw [hU];exact hj2)]
    obtain⟨a1,a2⟩:=hrel _ u hu
    refine⟨a1,?_⟩
    have:=a2.mono m
    rwa [ah6] at this
   ·rename_i hj2
    rw [if_neg (by rw [hU];exact hj2)]
    exact⟨(g9 j u hu).1,by have:=(g9 j u hu).2.mono m;rwa [aj5] at this⟩
 ·intro b' hb
  exact .inr (by rw [hown];simpa [nR,hcur,Value.ownBlock] using hb)
theorem QZ {o v u:lS}(hu:tL h o v=u):u=v∨(v=.slice [] .nil∧∃id,u=.slice [] (.own id)∧h[id]?=some (.front 0 0)):=by
 unfold tL at hu
 cases hn:v.isNil with
 | false=>rw [hn] at hu;exact .inl hu.symm
 | true =>
  rw [hn] at hu
  simp only [cond_true] at hu
  have hv:v=.slice [] .nil:=by
   unfold lS.isNil at hn
   split at hn
   ·rfl
   ·cases hn
  split at hu
  ·rename_i id
   split at hu
   ·rename_i hf;exact .inr ⟨hv,id,hu.symm,hf⟩
   ·exact .inl hu.symm
  ·exact .inl hu.symm
theorem xZ:∀{os vs:List lS},(qS h os vs).length=vs.length
 | [],_=>by simp [qS]
 | _::_,[]=>by simp [qS]
 | _::os,_::vs=>by simp [qS,xZ (os:=os) (vs:=vs)]
theorem Gj:∀{os vs:List lS}{j:Nat}{u:lS},(qS h os vs)[j]?=some u→∃v,vs[j]?=some v∧(u=v∨(v=.slice [] .nil∧∃id,u=.slice [] (.own id)∧h[id]?=some (.front 0 0)))
 | [],vs,j,u,hu=>⟨u,by simpa [qS] using hu,.inl rfl⟩
 | _::_,[],j,u,hu=>by simp [qS] at hu
 | o::os,v::vs,0,u,hu=>by
  simp only [qS,List.getElem?_cons_zero,ah5] at hu
  exact⟨v,rfl,QZ hu⟩
 | o::os,v::vs,j+1,u,hu=>by
  simp only [qS,List.getElem?_cons_succ] at hu
  obtain⟨v',h1,h2⟩:=Gj hu
  exact⟨v',by simpa using h1,h2⟩
theorem Xt (i:Inv G h w) {u v:lS}{V:Value}(hk:u=v∨(v=.slice [] .nil∧∃id,u=.slice [] (.own id)∧h[id]?=some (.front 0 0))) (hc:v.mZ=true) (hr:mJ G h v V):u.mZ=true∧mJ G h u V:=by
 rcases hk with rfl | ⟨rfl,id,rfl,hf⟩
 ·exact⟨hc,hr⟩
 ·have hb:=i.nY id _ hf
  have hV:V=.slice none 0 0:=by
   cases hr with
   | p _ _ hp=>cases hp
   | nil=>rfl
  have hcur:G.cur id=.slice none 0 0:=by
   rcases hb with ⟨_,h1⟩ | ⟨b,cap,C,e,h1,h2,h3,h4,h5,h6,_⟩
   ·exact h1
   ·omega
  subst hV
  exact⟨rfl,.own [] id 0 0 _ (.slice0 none 0) hf (ak5 _) (by simp) fun _=>hcur.symm⟩
theorem DU {t:TypeId}{n:Nat}{h':lT}(hn:oO P t=some n) (i:Inv G h w) (hb:mL n h x y=some h') (hx:mJ G h x X) (hy:mJ G h y Y) :
  ∃w',(Instr.storeAt t X Y).run P w=.ok () w'∧Inv G h' w'∧Ext G h w G h' w':=by
 unfold mL at hb
 split at hb
 ·rename_i id off
  cases hgb:oX h id with
  | none=>simp [hgb] at hb
  | some cs' =>
   have hid:=Gf hgb
   simp only [hgb] at hb
   obtain⟨z,hz,hzr⟩:∃z:lS,y.cells=z.cells∧mJ G h z Y:=⟨_,rfl,hy⟩
   rw [hz] at hb
   split at hb
   case isFalse=>cases hb
   rename_i hcond
   obtain⟨hlen,hle,hall⟩:=hcond
   injection hb with hb
   subst hb
   obtain⟨rfl,_⟩:=hx.xF
   obtain⟨C,e,h1,h2,h3,h4⟩:=i.nY id _ hid
   obtain⟨c1,c2⟩:=Cc hzr hall
   have hU:Y.cells.toList.length=z.cells.length:=by rw [av9,c1]
   have h1c:∀u∈Y.cells.toList,u.oneCell'=true:=by
    intro u hu
    obtain⟨j,hj⟩:=List.getElem?_of_mem hu
    have hjl:j<z.cells.length:=by rw [←hU];exact(ag0.1 hj).1
    obtain⟨a1,a2⟩:=c2 j _ (ag8 hjl)
    have hval:Y.cells.getD j undef=u:=by rw [aj5,←aq2,hj];rfl
    rw [hval] at a2
    exact(a2.AI a1).1
   have hst:=run_storeCells_at P (G.nY id) off e Y.cells.toList 0 C w h1 (by rw [av9,h2];omega) h1c
   simp only [aA4] at hst
   have hw:=i.write (off:=off) (vs:=qS h (cs'.drop off) z.cells) (U:=Y.cells.toList) hid h1 (by rw [xZ];omega) (by rw [xZ];exact hU) (fun j u hu=>by
    obtain⟨v,hv,hk⟩:=Gj hu
    obtain⟨a1,a2⟩:=c2 j v hv
    rw [ah6,aq2]
    rw [aj5] at a2
    exact Xt i hk a1 a2)
   refine⟨_,?_,hw⟩
   have hsz:Y.cells.size=n:=by omega
   simp [Instr.storeAt,Instr.sureAddr,storeVar,oP hn,hsz,hst]
 ·rename_i id tot off
  cases hgb:oQ h id tot with
  | none=>simp [hgb] at hb
  | some x0 =>
   have hid:=rP hgb
   simp only [hgb] at hb
   obtain⟨z,hz,hzr⟩:∃z:lS,y.cells=z.cells∧mJ G h z Y:=⟨_,rfl,hy⟩
   rw [hz] at hb
   split at hb
   case isFalse=>cases hb
   rename_i hcond
   obtain⟨hlen,hle,hall⟩:=hcond
   injection hb with hb
   subst hb
   obtain⟨b,hX,_,_,h3⟩:=hx.B6
   obtain⟨b',cap,C,e,g1,g2,g3,g4,g5,g6,g7,g8,g9⟩:=i.nY id _ hid
   obtain⟨cap0,h4⟩:=h3 (by rw [g1];rfl)
   have h4':=h4
   rw [g1] at h4
   simp only [Value.slice.injEq,ah5,Addr.mk.injEq] at h4
   obtain⟨⟨rfl,_⟩,_,rfl⟩:=h4
   subst hX
   obtain⟨c1,c2⟩:=Cc hzr hall
   have hU:Y.cells.toList.length=z.cells.length:=by rw [av9,c1]
   have h1c:∀u∈Y.cells.toList,u.oneCell'=true:=by
    intro u hu
    obtain⟨j,hj⟩:=List.getElem?_of_mem hu
    have hjl:j<z.cells.length:=by rw [←hU];exact(ag0.1 hj).1
    obtain⟨a1,a2⟩:=c2 j _ (ag8 hjl)
    have hval:Y.cells.getD j undef=u:=by rw [aj5,←aq2,hj];rfl
    rw [hval] at a2
    exact(a2.AI a1).1
   have hcl:x0.2.length≤C.size:=by rw [g7,g5];exact as0 _ g3
   have hst:=run_storeCells_at P b' off e Y.cells.toList 0 C w g2 (by rw [av9];omega) h1c
   simp only [aA4] at hst
   have hw:=i.JU (off:=off) (vs:=z.cells) (U:=Y.cells.toList) hid h4' g2 (by omega) hU (fun j u hu=>by
    obtain⟨a1,a2⟩:=c2 j u hu
    rw [ah6,aq2]
    rw [aj5] at a2
    exact⟨a1,a2⟩)
   refine⟨_,?_,hw⟩
   have hsz:Y.cells.size=n:=by omega
   simp [Instr.storeAt,Instr.sureAddr,storeVar,oP hn,hsz,hst]
 ·cases hb
end
end
section
open Go Go.RowKit
theorem Inv.Bl {G:Gh}{h:lT}{w:World}(i:Inv G h w) {b k:Nat}{v:Value}(hv:G.H b k=some v):b<w.heap.size:=by
 have:=i.ok b k v hv
 unfold World.cell? at this
 cases hh:w.heap[b]? with
 | none=>simp [hh] at this
 | some o=>exact(Array.getElem?_eq_some_iff.1 hh).1
theorem Inv.E2 {G:Gh}{h:lT}{w:World}(i:Inv G h w) {b k:Nat}(hb:w.heap.size≤b):G.H b k=none:=by
 cases hv:G.H b k with
 | none=>rfl
 | some v=>have:=i.Bl hv;omega
theorem zP:∀(vs:List lS) (k:Nat),(nX k vs).1.length=vs.length∧(∀(j:Nat) (b:mT),(nX k vs).2[j]?=some b→b=.front 0 0) ∧
  ∀(j:Nat) (c:lS),(nX k vs).1[j]?=some c→vs[j]?=some c∨(vs[j]?=some (.slice [] .nil)∧∃id,k≤id∧c=.slice [] (.own id)∧(nX k vs).2[id-k]?=some (.front 0 0))
 | [],k=>by simp [nX]
 | v::r,k=>by
  by_cases hv:v=.slice [] .nil
  ·subst hv
   obtain⟨h1,h2,h3⟩:=zP r (k+1)
   simp only [nX]
   refine⟨by simp [h1],?_,?_⟩
   ·intro j b hb
    cases j with
    | zero=>simp at hb;exact hb.symm
    | succ j=>exact h2 j b (by simpa using hb)
   ·intro j c hc
    cases j with
    | zero=>simp at hc;subst hc;exact .inr ⟨rfl,k,ak5 _,rfl,by simp⟩
    | succ j =>
     rcases h3 j c (by simpa using hc) with h4 | ⟨h4,id,h5,h6,h7⟩
     ·exact .inl (by simpa using h4)
     ·refine .inr ⟨by simpa using h4,id,by omega,h6,?_⟩
      rw [show id-k=(id-(k+1))+1 by omega]
      simpa using h7
  ·have he:nX k (v::r)=(v::(nX k r).1,(nX k r).2):=by
    rw [nX]
    exact hv
   obtain⟨h1,h2,h3⟩:=zP r k
   rw [he]
   refine⟨by simp [h1],h2,?_⟩
   intro j c hc
   cases j with
   | zero=>simp at hc;subst hc;exact .inl rfl
   | succ j =>
    rcases h3 j c (by simpa using hc) with h4 | ⟨h4,h5⟩
    ·exact .inl (by simpa using h4)
    ·exact .inr ⟨by simpa using h4,h5⟩
section
variable {P:Program}{G:Gh}{h:lT}{w:World}{x y v:lS}{X Y V:Value}
theorem mJ.Nn (r:mJ G h (.slice [] .nil) V):V=.slice none 0 0:=by
 cases r with
 | p _ _ hp=>cases hp
 | nil=>rfl
def Gh.add (G:Gh) (n b:Nat):Gh:={ G with nY:=fun i=>if i=n then b else G.nY i,cur:=fun i=>if n<i then .slice none 0 0 else G.cur i }
theorem oU (w:World) (o:Obj) (k:Nat) (hk:k<w.heap.size):(w.alloc o).heap[k]?=w.heap[k]?:=Below.heap_alloc w o k hk
theorem Inv.new (i:Inv G h w) {n:Nat}{v p:lS}{h':lT}{Z:Value}(t:TypeId) (hb:nP n h v=some (p,h')) (hr:mJ G h v Z) :
  ∃G',Inv G' h' (w.alloc (.cells Z.cells t))∧Ext G h w G' h' (w.alloc (.cells Z.cells t))∧mJ G' h' p (.pointer (some ⟨w.heap.size,0,none⟩))∧Z.cells.size=n:=by
 unfold nP at hb
 simp only [] at hb
 split at hb
 case isFalse=>cases hb
 rename_i hcond
 obtain⟨hlen,hall⟩:=hcond
 simp only [ah5,as7] at hb
 obtain⟨rfl,rfl⟩:=hb
 obtain⟨c1,c2⟩:=Cc hr hall
 obtain⟨t1,t2,t3⟩:=zP v.cells (h.length+1)
 have hsz:Z.cells.size=n:=by omega
 refine⟨G.add h.length w.heap.size,?_⟩
 have key:=i.push (G':=G.add h.length w.heap.size) (ext:=.cells (nX (h.length+1) v.cells).1::(nX (h.length+1) v.cells).2) (w':=w.alloc (.cells Z.cells t))
  rfl rfl rfl (by simp) (fun k hk=>oU w _ k hk) (fun id hid=>by simp [Gh.add];omega) (fun id hid=>by simp [Gh.add];omega) (fun _ _ _ hh=>hh) (fun _ _ _=>rfl)
  (fun b k v hb hv=>by have:=i.Bl (b:=b) (k:=k) (v:=v) hv;omega)
  (fun j bl hj m=>by
   cases j with
   | zero =>
    simp at hj;subst hj
    refine⟨Z.cells,t,by simp only [Gh.add,aA4,if_true];exact heap_alloc_new w _,by omega,fun k=>by simp only [Gh.add,aA4,if_true];exact i.E2 (ak5 _),fun j u hu=>?_⟩
    rcases t3 j u hu with h4 | ⟨h4,id,h5,h6,h7⟩
    ·exact⟨(c2 j u h4).1,(c2 j u h4).2.mono m⟩
    ·subst h6
     obtain⟨_,hz⟩:=c2 j _ h4
     have hz:=hz.Nn
     refine⟨rfl,?_⟩
     rw [hz]
     refine .own (t:=0) [] id 0 0 _ (.slice0 none 0) ?_ (ak5 _) (by simp) (fun _=>by simp only [Gh.add];rw [if_pos (by omega)])
     rw [ak0 (by omega),show id-h.length=(id-(h.length+1))+1 by omega]
     simpa using h7
   | succ j =>
    have hj':=t2 j bl (by simpa using hj)
    subst hj'
    exact .inl ⟨rfl,by simp only [Gh.add];rw [if_pos (by omega)]⟩)
  (fun j bl b hj ho=>by
   cases j with
   | zero=>simp at hj;subst hj;simp only [nR,Gh.add,aA4,if_true,ah5] at ho;omega
   | succ j =>
    have hj':=t2 j bl (by simpa using hj)
    subst hj'
    simp only [nR,Gh.add] at ho
    rw [if_pos (by omega)] at ho
    cases ho)
  (fun j j' bl bl' b hj hj' ho ho'=>by
   have:∀j bl,(mT.cells (nX (h.length+1) v.cells).1::(nX (h.length+1) v.cells).2)[j]?=some bl→nR (G.add h.length w.heap.size) (h.length+j) bl=some b→j=0:=by
    intro j bl hj ho
    cases j with
    | zero=>rfl
    | succ j =>
     have hj':=t2 j bl (by simpa using hj)
     subst hj'
     simp only [nR,Gh.add] at ho
     rw [if_pos (by omega)] at ho
     cases ho
   rw [this j bl hj ho,this j' bl' hj' ho'])
 refine⟨key.1,key.2,?_,hsz⟩
 have hp:=mJ.ptr (G:=G.add h.length w.heap.size) (h:=h++.cells (nX (h.length+1) v.cells).1::(nX (h.length+1) v.cells).2) h.length 0
  ⟨.cells (nX (h.length+1) v.cells).1,by simp,by simp⟩
 simpa [Gh.add] using hp
theorem Qy {t:TypeId}{n:Nat}{p:lS}{h':lT}(i:Inv G h w) (hb:nP n h x=some (p,h')) (hx:mJ G h x X) :
  ∃V w' G',(Instr.box t X).run P w=.ok V w'∧Inv G' h' w'∧Ext G h w G' h' w'∧mJ G' h' p V:=by
 obtain⟨G',h1,h2,h3,_⟩:=i.new t hb hx
 exact⟨_,_,G',by simp [Instr.box,newVar,newRow,Sem.run_pure],h1,h2,h3⟩
theorem rD {t:TypeId}{z:lS}(hz:qM P t=some z):∃Z,(zeroValue t).run P w=.ok Z w∧mJ G h z Z:=by
 unfold qM at hz
 cases hi:P.info? t with
 | none=>simp [hi] at hz
 | some ti =>
  cases hzz:ti.zero with
  | none=>simp [hi,hzz] at hz
  | some Z =>
   simp [hi,hzz] at hz;subst hz
   exact⟨Z,by simp [zeroValue,Go.typeInfo,hi,hzz,Sem.run_pure],tI G h Z⟩
theorem LN {t:TypeId}{n:Nat}{z p:lS}{h':lT}(i:Inv G h w) (hz:qM P t=some z) (hb:nP n h z=some (p,h')) :
  ∃V w' G',(Instr.alloc t true (.tuple #[])).run P w=.ok V w'∧Inv G' h' w'∧Ext G h w G' h' w'∧mJ G' h' p V:=by
 obtain⟨Z,hz1,hz2⟩:=rD (P:=P) (G:=G) (h:=h) (w:=w) hz
 obtain⟨G',h1,h2,h3,_⟩:=i.new t hb hz2
 refine⟨_,_,G',?_,h1,h2,h3⟩
 simp [Instr.alloc,hz1,newVar,newRow,Sem.run_pure]
end
end
section
open Go Go.RowKit
theorem KJ (off:Nat):∀(us:List Value) (k:Nat) (C:Array Value),off+k+us.length≤C.size →
  ((us.zipIdx k).foldl (fun(cs:Array Value) p=>cs.setIfInBounds (off+p.2) p.1) C)=(C.toList.take (off+k)++us++C.toList.drop (off+k+us.length)).toArray
 | [],k,C,_=>by simp
 | u::us,k,C,hl=>by
  simp only [List.zipIdx_cons,List.foldl_cons]
  rw [KJ off us (k+1) (C.setIfInBounds (off+k) u) (by simp at hl ⊢;omega)]
  congr 1
  have e:=list_seg_step C.toList (off+k) u us (by simp at hl ⊢;omega)
  simpa [Array.toList_setIfInBounds,Nat.add_assoc] using e
section
variable {P:Program}{G:Gh}{h:lT}{w:World}{x y v:lS}{X Y V:Value}
theorem tF (hj:x.o7=false) (hx:mJ G h x X):x.cells.length=X.cells.size∧∀(i:Nat) (u:lS),x.cells[i]?=some u→mJ G h u (X.cells.getD i undef):=by
 by_cases ha:∃cs,x=.agg cs
 ·obtain⟨cs,rfl⟩:=ha
  obtain⟨C,rfl,hl,hr⟩:=hx.tB
  exact⟨hl,hr⟩
 ·have hc:x.cells=[x]:=by cases x <;> simp_all [lS.cells]
  have hX:X.cells=#[X]:=by
   cases hx with
   | p _ _ hp=>cases hp <;> simp_all [lS.o7,Value.cells]
   | own _ _ _ _ _ hp=>cases hp <;> simp [Value.cells]
   | ownv _ _ hp=>cases hp <;> simp [Value.cells]
   | _=>simp_all [Value.cells]
  rw [hc,hX]
  refine⟨rfl,fun i u hu=>?_⟩
  cases i with
  | zero=>simp at hu;subst hu;simpa using hx
  | succ i=>simp at hu
def GC (G:Gh) (h:lT) (cs:List lS) (C:Array Value):Prop:=cs.length=C.size∧∀(i:Nat) (u:lS),cs[i]?=some u→mJ G h u (C.getD i undef)
theorem GC.put {cs vs:List lS}{C:Array Value}{U:List Value}{off:Nat}(hc:GC G h cs C) (hle:off+vs.length≤cs.length) (hU:U.length=vs.length)
  (hr:∀(j:Nat) (u:lS),vs[j]?=some u→mJ G h u (U.getD j undef)):GC G h (putCells cs off vs) (C.toList.take off++U++C.toList.drop (off+U.length)).toArray:=by
 obtain⟨h1,h2⟩:=hc
 have hoff:off+U.length≤C.size:=by omega
 refine⟨by rw [qX cs vs off hle];simp;omega,fun j u hu=>?_⟩
 rw [sV cs vs off j hle] at hu
 rw [aj5,rK C U off j hoff]
 split at hu
 ·rename_i hj;rw [if_pos hj];have:=h2 j u hu;rwa [aj5] at this
 ·rename_i hj
  rw [if_neg hj]
  split at hu
  ·rename_i hj2;rw [if_pos (by omega)];have:=hr _ u hu;rwa [ah6] at this
  ·rename_i hj2;rw [if_neg (by omega)];have:=h2 j u hu;rwa [aj5] at this
theorem AD (place:Nat→Option (Nat×Nat)) (places:List (Nat×Nat)) (hp:∀i p,places[i]?=some p→place i=some p) :
  ∀(parts:List (Nat×lS)) (PS:List (Nat×Value)) (zero:List lS) (Z:Array Value) (r:lS),GC G h zero Z →
   (parts.map (·.1)=PS.map (·.1))→(∀(j:Nat) a b,parts[j]?=some a→PS[j]?=some b→mJ G h a.2 b.2)→mV zero places parts=some r →
   ∃C cs,Instr.fill place Z PS=some C∧r=.agg cs∧GC G h cs C
 | [],PS,zero,Z,r,hz,hm,_,hb=>by
  have:PS=[]:=by simpa using hm.symm
  subst this
  simp only [mV,ah5] at hb;subst hb
  exact⟨Z,zero,rfl,rfl,hz⟩
 | (i,u)::rest,[],zero,Z,r,_,hm,_,_=>by simp at hm
 | (i,u)::rest,(i',U)::PS,zero,Z,r,hz,hm,hr,hb=>by
  simp only [List.map_cons,List.cons.injEq] at hm
  obtain⟨rfl,hm⟩:=hm
  simp only [mV] at hb
  split at hb
  ·rename_i off n hpl
   split at hb
   case isFalse=>cases hb
   rename_i hcond
   obtain⟨hj,hn,hle⟩:=hcond
   have hU:mJ G h u U:=hr 0 (i,u) (i,U) rfl rfl
   obtain⟨c1,c2⟩:=tF hj hU
   subst hn
   have hpl':=hp i _ hpl
   have hput:=hz.put (U:=U.cells.toList) hle (by simpa using c1.symm) (fun j a ha=>by
    have:=c2 j a ha
    rw [ah6,aq2]
    rwa [aj5] at this)
   obtain⟨C,cs,e1,e2,e3⟩:=AD place places hp rest PS _ _ r hput hm (fun j a b ha hb=>hr (j+1) a b (by simpa using ha) (by simpa using hb)) hb
   refine⟨C,cs,?_,e2,e3⟩
   have hzl:zero.length=Z.size:=hz.1
   have hfold:=KJ off U.cells.toList 0 Z (by rw [av9];omega)
   simp only [aA4] at hfold
   have hsz:U.cells.size=u.cells.length:=c1.symm
   simp only [Instr.fill,hpl',hsz,ne_eq,not_true_eq_false,false_or]
   rw [if_neg (by simp;omega)]
   rw [←Array.foldl_toList,Array.toList_zipIdx,hfold]
   exact e1
  ·cases hb
theorem JZ {t:TypeId}{fs:Array Field}{z r:lS}{places:List (Nat×Nat)}{parts:Array (Nat×Operand)}{f:Operand→lS}{F:Operand→Value}
  (ht:P.underlying t=some (.struct fs)) (hz:qM P t=some z) (hp:fs.toList.mapM (fun f=>(oO P f.type).map fun n=>(f.offset,n))=some places) (hf:∀o,mJ G h (f o) (F o))
  (hzj:z.o7=false) (hb:mV z.cells places (parts.toList.map fun p=>(p.1,f p.2))=some r) :
  ∃V,(Instr.build t (parts.map fun(i,x)=>(i,F x))).run P w=.ok V w∧mJ G h r V:=by
 obtain⟨Z,hz1,hz2⟩:=rD (P:=P) (G:=G) (h:=h) (w:=w) hz
 have hmap:∀(l:List Field) (ps:List (Nat×Nat)),l.mapM (fun f=>(oO P f.type).map fun n=>(f.offset,n))=some ps →
   (l.mapM (fun f=>(Prod.mk f.offset <$> Go.sizeOf f.type:Sem (Nat×Nat)))).run P w=.ok ps w:=by
  intro l
  induction l with
  | nil=>intro ps hps;simp at hps;subst hps;simp [Sem.run_pure]
  | cons f l ih =>
   intro ps hps
   simp only [List.mapM_cons,Option.bind_eq_bind,ac6] at hps
   obtain⟨a,ha,bs,hbs,hps⟩:=hps
   cases hs:oO P f.type with
   | none=>simp [hs] at ha
   | some n =>
    simp [hs] at ha;subst ha
    simp only [Option.pure_def,ah5] at hps;subst hps
    simp only [List.mapM_cons,map_eq_pure_bind] at ih ⊢
    simp only [Sem.run_bind,oP hs,Sem.run_pure,Result.andThen_ok,ih bs hbs]
 have hmapA:(fs.mapM (fun f=>(Prod.mk f.offset <$> Go.sizeOf f.type:Sem (Nat×Nat)))).run P w=.ok places.toArray w:=by
  rw [Array.mapM_eq_mapM_toList]
  have:=hmap fs.toList places hp
  simp only [map_eq_pure_bind] at this
  simp only [map_eq_pure_bind,Sem.run_bind,this,Result.andThen_ok,Sem.run_pure]
 obtain⟨C,cs,e1,rfl,e3⟩:=AD (G:=G) (h:=h) (fun i=>places.toArray[i]?) places (by simp) _ (parts.toList.map fun p=>(p.1,F p.2)) z.cells Z.cells r (tF hzj hz2)
  (by simp) (fun j a b ha hb=>by
   simp only [ak4,ah7] at ha hb
   obtain⟨p,hp1,rfl⟩:=ha
   obtain⟨q,hq1,rfl⟩:=hb
   rw [hp1] at hq1;cases hq1
   exact hf _) hb
 refine⟨.agg C,?_,.agg _ _ e3.1 e3.2⟩
 simp only [List.getElem?_toArray] at e1
 simp [Instr.build,hz1,run_underlying ht,hmapA,e1,Sem.run_pure]
theorem LQ {t e:TypeId}{len n:Nat}{z r:lS}{parts:Array (Nat×Operand)}{f:Operand→lS}{F:Operand→Value}
  (ht:P.underlying t=some (.array len e)) (hz:qM P t=some z) (hn:oO P e=some n) (hf:∀o,mJ G h (f o) (F o))
  (hzj:z.o7=false) (hb:mV z.cells ((ar9 len).map fun i=>(i*n,n)) (parts.toList.map fun p=>(p.1,f p.2))=some r) :
  ∃V,(Instr.build t (parts.map fun(i,x)=>(i,F x))).run P w=.ok V w∧mJ G h r V:=by
 obtain⟨Z,hz1,hz2⟩:=rD (P:=P) (G:=G) (h:=h) (w:=w) hz
 obtain⟨C,cs,e1,rfl,e3⟩:=AD (G:=G) (h:=h) (fun i=>some (i*n,n)) ((ar9 len).map fun i=>(i*n,n)) (fun i p hp=>by
   simp only [ak4,ah7] at hp
   obtain⟨a,ha,rfl⟩:=hp
   have:=(ag0.1 ha).2
   simp at this;rw [this]) _ (parts.toList.map fun p=>(p.1,F p.2)) z.cells Z.cells r (tF hzj hz2)
  (by simp) (fun j a b ha hb=>by
   simp only [ak4,ah7] at ha hb
   obtain⟨p,hp1,rfl⟩:=ha
   obtain⟨q,hq1,rfl⟩:=hb
   rw [hp1] at hq1;cases hq1
   exact hf _) hb
 refine⟨.agg C,?_,.agg _ _ e3.1 e3.2⟩
 simp [Instr.build,hz1,run_underlying ht,oP hn,e1,Sem.run_pure]
theorem uQ {c c' : lS} {V : Value} (hp : c.Bc = some c') (hr : mJ G h c V) : pS G.H c' V ∧ c'.mZ = true := by
  unfold lS.Bc at hp
  split at hp <;> simp only [ah5, reduceCtorEq] at hp <;> subst hp
  all_goals first
    | exact ⟨hr.sA, rfl⟩
    | (refine ⟨?_, rfl⟩; cases hr with | p _ _ h => exact h)
    | (refine ⟨?_, rfl⟩
       cases hr with
       | p _ _ h => exact h
       | func f first cap F C hlf hlc hf hc =>
         have h1 : F = #[] := Array.eq_empty_of_size_eq_zero hlf.symm
         have h2 : C = #[] := Array.eq_empty_of_size_eq_zero hlc.symm
         subst h1; subst h2; exact .func _)
theorem qO:∀{cs row:List lS},oM cs=some row→row.length=cs.length∧∀(j:Nat) (c:lS),cs[j]?=some c→∃c',row[j]?=some c'∧c.Bc=some c'
 | [],row,hp=>by simp only [oM,ah5] at hp;subst hp;simp
 | v::r,row,hp=>by
  simp only [oM] at hp
  split at hp <;> simp only [ah5,reduceCtorEq] at hp
  rename_i a b ha hb
  subst hp
  obtain⟨h1,h2⟩:=qO hb
  refine⟨by simp [h1],fun j c hc=>?_⟩
  cases j with
  | zero=>simp at hc;subst hc;exact⟨a,rfl,ha⟩
  | succ j=>obtain⟨c',e1,e2⟩:=h2 j c (by simpa using hc);exact⟨c',by simpa using e1,e2⟩
theorem q9:∀(n sz:Nat) (cs:List lS),n*sz≤cs.length→(rowsOf n sz cs).length=n∧(∀r∈rowsOf n sz cs,r.length=sz) ∧
  ∀(i j:Nat) (row:List lS) (c:lS),(rowsOf n sz cs)[i]?=some row→row[j]?=some c→cs[i*sz+j]?=some c
 | 0,sz,cs,_=>by simp [rowsOf]
 | n+1,sz,cs,hl=>by
  have hl':n*sz≤(cs.drop sz).length:=by rw [List.length_drop];rw [aB1] at hl;omega
  obtain⟨h1,h2,h3⟩:=q9 n sz (cs.drop sz) hl'
  simp only [rowsOf]
  have hsz:(cs.take sz).length=sz:=by rw [ar6];rw [aB1] at hl;omega
  refine⟨by simp [h1],?_,?_⟩
  ·intro r hr
   rcases List.mem_cons.1 hr with rfl | hr
   ·exact hsz
   ·exact h2 r hr
  ·intro i j row c hi hj
   cases i with
   | zero =>
    simp at hi;subst hi
    rw [ar0] at hj
    split at hj
    ·simpa using hj
    ·cases hj
   | succ i =>
    have:=h3 i j row c (by simpa using hi) hj
    rw [aq4] at this
    rw [show(i+1)*sz+j=sz+(i*sz+j) by rw [aB1];omega]
    exact this
theorem Aj {H:Nat→Nat→Option Value}{n sz b off cap:Nat}{row:List lS}{F:Nat→Value}(hl:n*sz≤row.length) (hc:n≤cap)
  (hH:∀(j:Nat) (c:lS),row[j]?=some c→j<n*sz→H b (off+j)=some (F j)∧pS H c (F j)∧c.mZ=true) :
  pS H (.slice (rowsOf n sz row) .no) (.slice (some ⟨b,off,none⟩) n cap):=by
 obtain⟨h1,h2,h3⟩:=q9 n sz row hl
 have hb:∀(i j:Nat) (r:List lS) (c:lS),(rowsOf n sz row)[i]?=some r→r[j]?=some c→row[i*sz+j]?=some c∧i*sz+j<n*sz:=by
  intro i j r c hi hj
  refine⟨h3 i j r c hi hj,?_⟩
  have hi':i<n:=by rw [←h1];exact(ag0.1 hi).1
  have hj':j<sz:=by rw [←h2 r (aj8 hi)];exact(ag0.1 hj).1
  calc i*sz+j<i*sz+sz:=by omega
   _=(i+1)*sz:=by rw [aB1];omega
   _≤n*sz:=as0 _ hi'
 have:=pS.slice (H:=H) (rowsOf n sz row) b off cap sz F h2 (by rw [h1];exact hc)
  (fun i j r c hi hj=>by obtain⟨a1,a2⟩:=hb i j r c hi hj;exact(hH _ c a1 a2).1)
  (fun i j r c hi hj=>by obtain⟨a1,a2⟩:=hb i j r c hi hj;exact(hH _ c a1 a2).2.2)
  (fun i j r c hi hj=>by obtain⟨a1,a2⟩:=hb i j r c hi hj;exact(hH _ c a1 a2).2.1)
 rwa [h1] at this
end
end
section
open Go Go.RowKit
section
variable {P:Program}{G:Gh}{h:lT}{w:World}{x y v:lS}{X Y V:Value}
def Gh.qU (G:Gh) (n b:Nat) (C:Array Value) (V:Value):Gh :=
 {G with H:=fun c k=>if c=b then C[k]? else G.H c k,cur:=fun i=>if i=n then V else G.cur i }
theorem Inv.newRow (i:Inv G h w) {len sz:Nat}{cs row:List lS}{C:Array Value}(e:TypeId) (hc:GC G h cs C) (hp:oM cs=some row) (hl:C.size=len*sz) (hmax:len≤maxLen) (hsz0:0<sz) :
  ∃G',Inv G' (h++[.front len sz]) (w.alloc (.cells C e))∧Ext G h w G' (h++[.front len sz]) (w.alloc (.cells C e)) ∧
   mJ G' (h++[.front len sz]) (.slice (rowsOf len sz row) (.own h.length)) (.slice (some ⟨w.heap.size,0,none⟩) len len):=by
 obtain⟨p1,p2⟩:=qO hp
 obtain⟨c1,c2⟩:=hc
 have hHlt:∀{b k v},G.H b k=some v→b≠w.heap.size:=fun hv=>by have:=i.Bl hv;omega
 refine⟨G.qU h.length w.heap.size C (.slice (some ⟨w.heap.size,0,none⟩) len len),?_⟩
 have hmono:∀b k v,G.H b k=some v→(G.qU h.length w.heap.size C (.slice (some ⟨w.heap.size,0,none⟩) len len)).H b k=some v:=by
  intro b k v hv;simp only [Gh.qU,if_neg (hHlt hv),hv]
 have key:=i.push (G':=G.qU h.length w.heap.size C (.slice (some ⟨w.heap.size,0,none⟩) len len)) (ext:=[.front len sz]) (w':=w.alloc (.cells C e))
  rfl rfl rfl (by simp) (fun k hk=>oU w _ k hk) (fun id hid=>rfl) (fun id hid=>by simp only [Gh.qU];rw [if_neg (by omega)]) hmono
  (fun b k hb=>by simp only [Gh.qU];rw [if_neg (by omega)])
  (fun b k v hb hv=>by
   by_cases hbe:b=w.heap.size
   ·subst hbe
    simp only [Gh.qU,if_true] at hv
    rw [cell_of _ _ _ (heap_alloc_new w _),hv]
   ·simp only [Gh.qU,if_neg hbe] at hv
    have:=i.Bl hv;omega)
  (fun j bl hj m=>by
   cases j with
   | zero =>
    simp at hj;subst hj
    refine .inr ⟨w.heap.size,len,C,e,by simp [Gh.qU],heap_alloc_new w _,ak5 _,hmax,hl,hsz0,fun k hk=>?_,fun h=>absurd rfl h⟩
    simp only [Gh.qU,if_true]
    exact Array.getElem?_eq_none (by omega)
   | succ j=>simp at hj)
  (fun j bl b hj ho=>by
   cases j with
   | zero=>simp at hj;subst hj;simp only [nR,Gh.qU,aA4,if_true,Value.ownBlock,ah5] at ho;omega
   | succ j=>simp at hj)
  (fun j j' bl bl' b hj hj' _ _=>by
   have h1:j<1:=by simpa using (ag0.1 hj).1
   have h2:j'<1:=by simpa using (ag0.1 hj').1
   omega)
 refine⟨key.1,key.2,?_⟩
 have hlen:(rowsOf len sz row).length=len:=(q9 len sz row (by omega)).1
 refine .own (t:=0) _ h.length len sz _ ?_ (by simp) (by omega) (q9 len sz row (by omega)).2.1 (fun _=>by simp [Gh.qU])
 refine Aj (F:=fun j=>C.getD j undef) (by omega) (ak5 _) fun j c hj hlt=>?_
 have hjl:j<C.size:=by omega
 obtain⟨c0,hc0⟩:∃c0,cs[j]?=some c0:=⟨cs[j]'(by omega),ag8 (by omega)⟩
 obtain⟨c',e1,e2⟩:=p2 j c0 hc0
 rw [hj] at e1;cases e1
 obtain⟨q1,q2⟩:=uQ e2 (c2 j c0 hc0)
 refine⟨?_,q1.mono hmono,q2⟩
 simp [Gh.qU,aj5,hjl]
theorem u_ {zc:List lS}{Z:Array Value}(hz:GC G h zc Z):∀(len:Nat),GC G h (ak7 len zc).flatten ((Array.range (len*Z.size)).map fun j=>Z[j%Z.size]!):=by
 intro len
 obtain⟨h1,h2⟩:=hz
 refine⟨by simp [h1],fun j u hu=>?_⟩
 have hlt:j<len*zc.length:=by
  have:=(ag0.1 hu).1
  simpa using this
 have hpos:0<zc.length:=by
  rcases Nat.eq_zero_or_pos zc.length with h0 | h0
  ·rw [h0] at hlt;omega
  ·exact h0
 have hmod:j%zc.length<zc.length:=Nat.mod_lt _ hpos
 have hflat:∀(n j:Nat),j<n*zc.length→(ak7 n zc).flatten[j]?=zc[j%zc.length]?:=by
  intro n
  induction n with
  | zero=>intro j hj;omega
  | succ n ih =>
   intro j hj
   rw [List.replicate_succ,List.flatten_cons]
   by_cases hjl:j<zc.length
   ·rw [aq3 hjl,Nat.mod_eq_of_lt hjl]
   ·rw [ak0 (by omega),ih (j-zc.length) (by rw [aB1] at hj;omega)]
    rw [Nat.mod_eq_sub_mod (a:=j) (by omega)]
 rw [hflat len j hlt] at hu
 have:=h2 _ u hu
 rw [h1] at hlt hmod this
 have e:((Array.range (len*Z.size)).map fun j=>Z[j%Z.size]!).getD j undef=Z.getD (j%Z.size) undef:=by
  simp [aj5,hlt,hmod]
 rw [e];exact this
theorem zS {t e:TypeId}{len sz:Nat}{z:lS}{cs:List lS}{parts:Array (Nat×Operand)}{f:Operand→lS}{F:Operand→Value}
  (ht:P.underlying t=some (.slice e)) (hz:qM P e=some z) (hn:oO P e=some sz) (hsz:sz≠0) (hle:len*sz≤16777216) (hf:∀o,mJ G h (f o) (F o)) (hzj:z.o7=false) (hzl:z.cells.length=sz)
  (hbd:mV (ak7 len z.cells).flatten ((ar9 len).map fun i=>(i*sz,sz)) (parts.toList.map fun p=>(p.1,f p.2))=some (.agg cs)) :
  ∃C,GC G h cs C∧C.size=len*sz∧len≤maxLen ∧
   (Instr.buildSlice t len (parts.map fun(i,x)=>(i,F x))).run P w=.ok (.slice (some ⟨w.heap.size,0,none⟩) len len) (w.alloc (.cells C e)):=by
 obtain⟨Z,hz1,hz2⟩:=rD (P:=P) (G:=G) (h:=h) (w:=w) hz
 have hzc:=tF hzj hz2
 have hZs:Z.cells.size=sz:=by rw [←hzl];exact hzc.1.symm
 obtain⟨C,cs',e1,e2,e3⟩:=AD (G:=G) (h:=h) (fun i=>some (i*sz,sz)) ((ar9 len).map fun i=>(i*sz,sz)) (fun i p hp=>by
   simp only [ak4,ah7] at hp
   obtain⟨a,ha,rfl⟩:=hp
   have:=(ag0.1 ha).2
   simp at this;rw [this]) _ (parts.toList.map fun p=>(p.1,F p.2)) _ _ _ (u_ hzc len)
  (by simp) (fun j a b ha hb=>by
   simp only [ak4,ah7] at ha hb
   obtain⟨p,hp1,rfl⟩:=ha
   obtain⟨q,hq1,rfl⟩:=hb
   rw [hp1] at hq1;cases hq1
   exact hf _) hbd
 cases e2
 have hlen:∀(places:List (Nat×Nat)) (parts:List (Nat×lS)) (zc:List lS) (r:lS),mV zc places parts=some r→∃cs,r=.agg cs∧cs.length=zc.length:=by
  intro places parts
  induction parts with
  | nil=>intro zc r hr;simp only [mV,ah5] at hr;exact⟨zc,hr.symm,rfl⟩
  | cons p parts ih =>
   intro zc r hr
   simp only [mV] at hr
   split at hr
   ·split at hr
    case isFalse=>cases hr
    rename_i hc
    obtain⟨cs,e1,e2⟩:=ih _ _ hr
    refine⟨cs,e1,e2.trans ?_⟩
    exact qX _ _ _ (by obtain⟨_,h2,h3⟩:=hc;omega)
   ·cases hr
 obtain⟨cs2,e4,e5⟩:=hlen _ _ _ _ hbd
 cases e4
 have hCs:C.size=len*sz:=by
  rw [←e3.1,e5];simp [hzl]
 refine⟨C,e3,hCs,by
  have:len≤len*sz:=Nat.le_mul_of_pos_right _ (by omega)
  simp only [maxLen];omega,?_⟩
 have hnle:¬(len*sz > 2^24):=by omega
 rw [hZs] at e1
 by_cases h0:len*sz=0
 ·have hl0:len=0:=by
   rcases Nat.mul_eq_zero.1 h0 with h1 | h1
   ·exact h1
   ·exact absurd h1 hsz
  subst hl0
  have hE:∀g:Nat→Value,Array.map g (Array.range 0)=#[]:=fun g=>Array.eq_empty_of_size_eq_zero (by simp)
  simp only [Nat.zero_mul,hE] at e1
  simp [Instr.buildSlice,run_underlying ht,oP hn,hE,e1,newRow,Sem.run_pure]
 ·simp [Instr.buildSlice,run_underlying ht,oP hn,hnle,h0,hz1,hZs,e1,newRow,Sem.run_pure]
theorem xV {t e:TypeId}{len sz:Nat}{z:lS}{rows:List (List lS)}{parts:Array (Nat×Operand)}{f:Operand→lS}{F:Operand→Value}
  (ht:P.underlying t=some (.slice e)) (hz:qM P e=some z) (hn:oO P e=some sz) (hsz:sz≠0) (hle:len*sz≤16777216) (hf:∀o,mJ G h (f o) (F o)) (hzj:z.o7=false)
  (hb:rX len sz z.cells (parts.toList.map fun p=>(p.1,f p.2))=some rows) :
  ∃cs row C,oM cs=some row∧rows=rowsOf len sz row∧GC G h cs C∧C.size=len*sz∧len≤maxLen ∧
   (Instr.buildSlice t len (parts.map fun(i,x)=>(i,F x))).run P w=.ok (.slice (some ⟨w.heap.size,0,none⟩) len len) (w.alloc (.cells C e)):=by
 unfold rX at hb
 split at hb
 ·rename_i cs hbd
  split at hb
  ·rename_i row hrow
   split at hb
   case isFalse=>cases hb
   rename_i hcond
   obtain⟨hzl,hall⟩:=hcond
   simp only [ah5] at hb
   subst hb
   obtain⟨C,e3,hCs,hm,hrun⟩:=zS (G:=G) (h:=h) (w:=w) ht hz hn hsz hle hf hzj hzl hbd
   exact⟨cs,row,C,hrow,rfl,e3,hCs,hm,hrun⟩
  ·cases hb
 ·cases hb
theorem DK {t e:TypeId}{len sz:Nat}{z r:lS}{h':lT}{parts:Array (Nat×Operand)}{f:Operand→lS}{F:Operand→Value}
  (i:Inv G h w) (ht:P.underlying t=some (.slice e)) (hz:qM P e=some z) (hn:oO P e=some sz) (hsz:sz≠0) (hle:len*sz≤16777216) (hf:∀o,mJ G h (f o) (F o)) (hzj:z.o7=false)
  (hb:mD len sz z.cells (parts.toList.map fun p=>(p.1,f p.2)) h=some (r,h')) :
  ∃V w' G',(Instr.buildSlice t len (parts.map fun(i,x)=>(i,F x))).run P w=.ok V w'∧Inv G' h' w'∧Ext G h w G' h' w'∧mJ G' h' r V:=by
 unfold mD at hb
 split at hb
 ·rename_i rows hrows
  simp only [ah5,as7] at hb
  obtain⟨rfl,rfl⟩:=hb
  obtain⟨cs,row,C,h1,rfl,h3,h4,h5,h6⟩:=xV (G:=G) (h:=h) (w:=w) ht hz hn hsz hle hf hzj hrows
  obtain⟨G',g1,g2,g3⟩:=i.newRow e h3 h1 h4 h5 (by omega)
  exact⟨_,_,G',h6,g1,g2,g3⟩
 ·cases hb
end
end
section
open Go Go.RowKit
theorem Inv.drew {G:Gh}{h:lT}{w:World}(i:Inv G h w):Inv G h w.drew:=⟨i.ok,fun id bl hb=>by have:=i.nY id bl hb;cases bl <;> exact this,i.inj⟩
theorem Inv.drawn {G:Gh}{h:lT}{w:World}(i:Inv G h w) (d:Nat):Inv G h { w with drawn:=d }:=⟨i.ok,fun id bl hb=>by have:=i.nY id bl hb;cases bl <;> exact this,i.inj⟩
theorem Ext.drawn (G:Gh) (h:lT) (w:World) (d:Nat):Ext G h w G h { w with drawn:=d } :=
 ⟨rfl,rfl,rfl,ak5 _,fun _ _ _=>⟨rfl,fun _=>rfl⟩,fun _ _ _ h=>h,fun _ _ h _=>h,fun id bl hb=>⟨bl,hb,Kind.refl G id bl⟩⟩
theorem Ext.drew (G:Gh) (h:lT) (w:World):Ext G h w G h w.drew :=
 ⟨rfl,rfl,rfl,ak5 _,fun _ _ _=>⟨rfl,fun _=>rfl⟩,fun _ _ _ h=>h,fun _ _ h _=>h,fun id bl hb=>⟨bl,hb,Kind.refl G id bl⟩⟩
section
variable {P:Program}{G:Gh}{h:lT}{w:World}{x y v:lS}{X Y V:Value}
structure Src (G:Gh) (h:lT) (w:World) (sz:Nat) (rows:List (List lS)) (X:Value) (a:Option Addr) (news:List Value):Prop where
 form:∃cap,X=.slice a rows.length cap
 len:news.length=rows.length*sz
 rlen:∀r∈rows,r.length=sz
 at_:∀(j:Nat) u,news[j]?=some u→∃ad,a=some ad∧w.cell? (ad.add j)=some u
 rel:∀(i j:Nat) (row:List lS) (c:lS),rows[i]?=some row→row[j]?=some c→∃u,news[i*sz+j]?=some u∧pS G.H c u∧c.mZ=true
theorem w7 {sz : Nat} {rows : List (List lS)} (i : Inv G h w) (hb : sR sz h x = some rows) (hx : mJ G h x X) : ∃ a news, Src G h w sz rows X a news := by
  unfold sR at hb
  split at hb
  · rename_i rows' tok
    split at hb
    case isFalse => cases hb
    rename_i hall
    simp only [ah5] at hb; subst hb
    have hrl : ∀ r ∈ rows', r.length = sz := fun r hr => by simpa using aq5.1 hall r hr
    have hp := hx.sA
    cases hp with
    | slice0 a cap => exact ⟨a, [], ⟨cap, rfl⟩, by simp, by simp, by simp, by simp⟩
    | slice rows b off cap sz' F hr hc hH hk hV =>
      have hszz : 0 < rows'.length → sz' = sz := fun h0 => by
        have hm : rows'[0]? = some rows'[0] := ag8 h0
        rw [← hr _ (aj8 hm), hrl _ (aj8 hm)]
      refine ⟨some ⟨b, off, none⟩, (ar9 (rows'.length * sz)).map F, ⟨cap, rfl⟩, by simp, hrl, ?_, ?_⟩
      · intro j u hu
        have hj : j < rows'.length * sz := by simpa using (ag0.1 hu).1
        have hpos : 0 < sz := by rcases Nat.eq_zero_or_pos sz with h0 | h0; · rw [h0] at hj; omega
                                 · exact h0
        have hrow : j / sz < rows'.length := (Nat.div_lt_iff_lt_mul hpos).2 hj
        have h1 : rows'[j / sz]? = some rows'[j / sz] := ag8 hrow
        have hl := hrl _ (aj8 h1)
        have h2 : rows'[j / sz][j % sz]? = some (rows'[j / sz][j % sz]'(by rw [hl]; exact Nat.mod_lt _ hpos)) := ag8 _
        have hs' := hszz (Nat.lt_of_le_of_lt (Nat.zero_le _) hrow)
        subst hs'
        have h3 := hH _ _ _ _ h1 h2
        rw [show j / sz' * sz' + j % sz' = j by rw [Nat.mul_comm]; exact Nat.div_add_mod j sz'] at h3
        refine ⟨_, rfl, ?_⟩
        rw [add_plain, i.ok _ _ _ h3]
        simp [hj] at hu
        rw [hu]
      · intro i' j row c h1 h2
        have hl := hrl _ (aj8 h1)
        have hi' : i' < rows'.length := (ag0.1 h1).1
        have hj' : j < sz := by rw [← hl]; exact (ag0.1 h2).1
        have hs' := hszz (by omega)
        subst hs'
        refine ⟨F (i' * sz' + j), ?_, hV _ _ _ _ h1 h2, hk _ _ _ _ h1 h2⟩
        have : i' * sz' + j < rows'.length * sz' := by
          calc i' * sz' + j < i' * sz' + sz' := by omega
            _ = (i' + 1) * sz' := by rw [aB1]; omega
            _ ≤ rows'.length * sz' := as0 _ hi'
        simp [this]
  · rename_i id off len sz'
    cases hgb : oX h id with
    | none => simp [hgb] at hb
    | some cs =>
      have hid := Gf hgb
      simp only [hgb] at hb
      split at hb
      case isFalse => cases hb
      rename_i hcond
      obtain ⟨rfl, hle⟩ := hcond
      split at hb <;> simp only [ah5, reduceCtorEq] at hb
      rename_i row hrow
      subst hb
      obtain ⟨a, cap, rfl, hlc, ha⟩ := hx.vN
      obtain ⟨C, e, h1, h2, h3, h4⟩ := i.nY id _ hid
      obtain ⟨p1, p2⟩ := qO hrow
      have hdl : ((cs.drop off).take (len * sz')).length = len * sz' := by rw [ar6, List.length_drop]; omega
      rw [hdl] at p1
      obtain ⟨q1, q2, q3⟩ := q9 len sz' row (by omega)
      refine ⟨a, (C.toList.drop off).take (len * sz'), ⟨cap, by rw [q1]⟩, by rw [q1, ar6, List.length_drop, av9]; omega, q2, ?_, ?_⟩
      · intro j u hu
        rw [ar0] at hu
        split at hu
        · rename_i hj
          have hpos : 0 < len := by rcases Nat.eq_zero_or_pos len with h0 | h0; · rw [h0] at hj; omega
                                    · exact h0
          obtain ⟨rfl, _⟩ := ha hpos
          refine ⟨_, rfl, ?_⟩
          rw [add_plain, cell_of w _ _ h1]
          rw [aq4, aq2] at hu
          exact hu
        · cases hu
      · intro i' j r c hi hj
        have hrow' := q3 i' j r c hi hj
        have hlt : i' * sz' + j < len * sz' := by
          have := (ag0.1 hrow').1; omega
        have hget : ∃ c0, ((cs.drop off).take (len * sz'))[i' * sz' + j]? = some c0 := ⟨_, ag8 (by omega)⟩
        obtain ⟨c0, hc0⟩ := hget
        obtain ⟨c', e1, e2⟩ := p2 _ c0 hc0
        rw [hrow'] at e1; cases e1
        have hc1 : cs[off + (i' * sz' + j)]? = some c0 := by
          rw [ar0, if_pos hlt, aq4] at hc0; exact hc0
        obtain ⟨_, hrel⟩ := h4 _ c0 hc1
        obtain ⟨z1, z2⟩ := uQ e2 hrel
        have hCl : off + (i' * sz' + j) < C.size := by rw [h2]; exact (ag0.1 hc1).1
        refine ⟨C.getD (off + (i' * sz' + j)) undef, ?_, z1, z2⟩
        rw [ar0, if_pos hlt, aq4, aq2, Array.getElem?_eq_getElem hCl]
        simp [aj5, hCl]
  · rename_i id tot off len sz'
    cases hgb : oQ h id tot with
    | none => simp [hgb] at hb
    | some x0 =>
      have hid := rP hgb
      simp only [hgb] at hb
      split at hb
      case isFalse => cases hb
      rename_i hcond
      obtain ⟨rfl, hle⟩ := hcond
      split at hb <;> simp only [ah5, reduceCtorEq] at hb
      rename_i row hrow
      subst hb
      obtain ⟨b, cap, rfl, hnf, htot, hlc, hv⟩ := hx.qK
      obtain ⟨b', cap', C, e, g1, g2, g3, g4, g5, g6, g7, g8, g9⟩ := i.nY id _ hid
      obtain ⟨l0, cap0, k1, _⟩ := hv (by rw [g1]; rfl)
      rw [g1] at k1
      simp only [Value.slice.injEq, ah5, Addr.mk.injEq] at k1
      obtain ⟨⟨rfl, _⟩, _, rfl⟩ := k1
      have hcl : x0.2.length ≤ C.size := by rw [g7, g5]; exact as0 _ g3
      obtain ⟨p1, p2⟩ := qO hrow
      have hdl : ((x0.2.drop off).take (len * sz')).length = len * sz' := by rw [ar6, List.length_drop]; omega
      rw [hdl] at p1
      obtain ⟨q1, q2, q3⟩ := q9 len sz' row (by omega)
      refine ⟨some ⟨b', off, none⟩, (C.toList.drop off).take (len * sz'), ⟨cap, by rw [q1]⟩, by rw [q1, ar6, List.length_drop, av9]; omega, q2, ?_, ?_⟩
      · intro j u hu
        rw [ar0] at hu
        split at hu
        · refine ⟨_, rfl, ?_⟩
          rw [add_plain, cell_of w _ _ g2]
          rw [aq4, aq2] at hu
          exact hu
        · cases hu
      · intro i' j r c hi hj
        have hrow' := q3 i' j r c hi hj
        have hlt : i' * sz' + j < len * sz' := by
          have := (ag0.1 hrow').1; omega
        have hget : ∃ c0, ((x0.2.drop off).take (len * sz'))[i' * sz' + j]? = some c0 := ⟨_, ag8 (by omega)⟩
        obtain ⟨c0, hc0⟩ := hget
        obtain ⟨c', e1, e2⟩ := p2 _ c0 hc0
        rw [hrow'] at e1; cases e1
        have hc1 : x0.2[off + (i' * sz' + j)]? = some c0 := by
          rw [ar0, if_pos hlt, aq4] at hc0; exact hc0
        obtain ⟨_, hrel⟩ := g9 _ c0 hc1
        obtain ⟨z1, z2⟩ := uQ e2 hrel
        have hCl : off + (i' * sz' + j) < C.size := by have := (ag0.1 hc1).1; omega
        refine ⟨C.getD (off + (i' * sz' + j)) undef, ?_, z1, z2⟩
        rw [ar0, if_pos hlt, aq4, aq2, Array.getElem?_eq_getElem hCl]
        simp [aj5, hCl]
  · cases hb
theorem Src.one {sz : Nat} {rows : List (List lS)} {a : Option Addr} {news : List Value} (s : Src G h w sz rows X a news) : ∀ u ∈ news, u.oneCell' = true := by
  intro u hu
  obtain ⟨j, hj⟩ := List.getElem?_of_mem hu
  have hjl : j < rows.length * sz := by rw [← s.len]; exact (ag0.1 hj).1
  have hpos : 0 < sz := by rcases Nat.eq_zero_or_pos sz with h0 | h0; · rw [h0] at hjl; omega
                           · exact h0
  have hrow : j / sz < rows.length := (Nat.div_lt_iff_lt_mul hpos).2 hjl
  have h1 : rows[j / sz]? = some rows[j / sz] := ag8 hrow
  have hl := s.rlen _ (aj8 h1)
  have h2 : rows[j / sz][j % sz]? = some (rows[j / sz][j % sz]'(by rw [hl]; exact Nat.mod_lt _ hpos)) := ag8 _
  obtain ⟨u', e1, e2, e3⟩ := s.rel _ _ _ _ h1 h2
  rw [show j / sz * sz + j % sz = j by rw [Nat.mul_comm]; exact Nat.div_add_mod j sz] at e1
  rw [hj] at e1; cases e1
  exact (e2.AI e3).1
theorem I_ {H:Nat→Nat→Option Value}{rows:List (List lS)}{sz b cap:Nat}{all:List Value}(hr:∀r∈rows,r.length=sz) (hc:rows.length≤cap)
  (hH:∀(k:Nat) u,all[k]?=some u→H b k=some u)
  (hrel:∀(i j:Nat) (row:List lS) (c:lS),rows[i]?=some row→row[j]?=some c→∃u,all[i*sz+j]?=some u∧pS H c u∧c.mZ=true) :
  pS H (.slice rows .no) (.slice (some ⟨b,0,none⟩) rows.length cap):=by
 refine .slice rows b 0 cap sz (fun k=>all.getD k undef) hr hc ?_ ?_ ?_
 ·intro i j row c h1 h2
  obtain⟨u,e1,_⟩:=hrel i j row c h1 h2
  rw [av7,hH _ u e1,ah6,e1];rfl
 ·intro i j row c h1 h2;obtain⟨u,_,_,e3⟩:=hrel i j row c h1 h2;exact e3
 ·intro i j row c h1 h2
  obtain⟨u,e1,e2,_⟩:=hrel i j row c h1 h2
  rw [ah6,e1];exact e2
theorem SL {H:Nat→Nat→Option Value}{A B:List (List lS)}{sz:Nat}{xs ys:List Value}(hxl:xs.length=A.length*sz) (hA:∀r∈A,r.length=sz)
  (h1:∀(i j:Nat) (row:List lS) (c:lS),A[i]?=some row→row[j]?=some c→∃u,xs[i*sz+j]?=some u∧pS H c u∧c.mZ=true)
  (h2:∀(i j:Nat) (row:List lS) (c:lS),B[i]?=some row→row[j]?=some c→∃u,ys[i*sz+j]?=some u∧pS H c u∧c.mZ=true) :
  ∀(i j:Nat) (row:List lS) (c:lS),(A++B)[i]?=some row→row[j]?=some c→∃u,(xs++ys)[i*sz+j]?=some u∧pS H c u∧c.mZ=true:=by
 intro i j row c hi hj
 by_cases hlt:i<A.length
 ·rw [aq3 hlt] at hi
  obtain⟨u,e1,e2⟩:=h1 i j row c hi hj
  exact⟨u,by rw [aq3 (ag0.1 e1).1];exact e1,e2⟩
 ·rw [ak0 (by omega)] at hi
  obtain⟨u,e1,e2⟩:=h2 _ j row c hi hj
  refine⟨u,?_,e2⟩
  have:A.length*sz≤i*sz:=as0 _ (by omega)
  rw [ak0 (by omega),hxl,←e1]
  congr 1
  rw [Nat.sub_mul];omega
theorem Inv.grow (i:Inv G h w) {id n n' sz sz' t t' bb cap':Nat}{all:List Value}{C':Array Value}{e':TypeId}{w':World}(hid:h[id]?=some (.front n sz t)) (hnn:n<n') (hsz:0<n→sz'=sz)
  (os:w'.os=w.os) (tape:w'.tape=w.tape) (output:w'.output=w.output) (size:w.heap.size≤w'.heap.size)
  (heap:∀k,k<w.heap.size→(k=bb→(G.cur id).ownBlock≠some k)→(k=bb→False)→w'.heap[k]?=w.heap[k]?)
  (hbb:(w.heap.size≤bb)∨(G.cur id).ownBlock=some bb)
  (hC:w'.heap[bb]?=some (.cells C' e' (0,0))) (hcap:n'≤cap') (hmax:cap'≤maxLen) (hCs:C'.size=cap'*sz')
  (hsz0:0<sz') (hall:all.length=n'*sz') (hC':∀(k:Nat) u,all[k]?=some u→C'[k]?=some u)
  (hold:∀k v,G.H bb k=some v→all[k]?=some v) (htt:t'≠0→e'+1=t') :
  ∃G',Inv G' (h.set id (.front n' sz' t')) w'∧Ext G h w G' (h.set id (.front n' sz' t')) w'∧(∀b k v,G.H b k=some v→G'.H b k=some v) ∧
   (∀(k:Nat) u,all[k]?=some u→G'.H bb k=some u)∧G'.cur id=.slice (some ⟨bb,0,none⟩) n' cap':=by
 let G':Gh:={ G with H:=fun b k=>if b=bb then all[k]? else G.H b k,cur:=fun j=>if j=id then .slice (some ⟨bb,0,none⟩) n' cap' else G.cur j }
 have hmono:∀b k v,G.H b k=some v→G'.H b k=some v:=by
  intro b k v hv
  show(if b=bb then all[k]? else G.H b k)=some v
  by_cases hb:b=bb
  ·subst hb;rw [if_pos rfl];exact hold k v hv
  ·rw [if_neg hb];exact hv
 have key:=i.step (G':=G') id (.front n sz t) (.front n' sz' t') hid os tape output size
  (fun k hk hne=>heap k hk (fun _=>hne) (fun e=>by
   subst e
   rcases hbb with h1 | h1
   ·omega
   ·exact hne h1))
  (fun j hj=>rfl) (fun j hj=>if_neg hj) hmono
  (fun b k hb hne=>by
   have:b≠bb:=by
    rintro rfl
    rcases hbb with h1 | h1
    ·omega
    ·exact hne h1
   show(if b=bb then all[k]? else G.H b k)=_
   rw [if_neg this])
  (fun b k v hb hv=>by
   change (if b=bb then all[k]? else G.H b k)=some v at hv
   by_cases hbe:b=bb
   ·subst hbe
    rw [if_pos rfl] at hv
    rw [cell_of w' _ _ hC];exact hC' k v hv
   ·rw [if_neg hbe] at hv
    have hlt:=i.Bl hv
    rw [World.cell?_of_block (w:=w) (a:=⟨b,k,none⟩) (heap b hlt (fun e=>absurd e hbe) hbe)]
    exact i.ok b k v hv)
  ⟨by omega,fun e=>by omega,rfl,hsz⟩
  (fun _=>.inr ⟨bb,cap',C',e',if_pos rfl,hC,hcap,hmax,hCs,hsz0,fun k hk=>by
   show(if bb=bb then all[k]? else G.H bb k)=none
   rw [if_pos rfl];exact List.getElem?_eq_none (by omega),htt⟩)
  (fun b hb=>by
   have hb:Value.ownBlock (if id=id then .slice (some ⟨bb,0,none⟩) n' cap' else G.cur id)=some b:=hb
   rw [if_pos rfl] at hb
   simp only [Value.ownBlock,ah5] at hb
   subst hb
   exact hbb)
 exact⟨G',key.1,key.2,hmono,fun k u hu=>by show(if bb=bb then all[k]? else G.H bb k)=some u;rw [if_pos rfl];exact hu,if_pos rfl⟩
end
end
section
open Go Go.RowKit
section
variable {P:Program}{G:Gh}{h:lT}{w:World}{x y v:lS}{X Y V:Value}
theorem KX (i:Inv G h w) {rows:List (List lS)}{id n sz:Nat}(hx:mJ G h (.slice rows (.own id)) X) {t:Nat}(hid:h[id]?=some (.front n sz t)) (hlen:rows.length=n) :
  X=G.cur id∧(∀r∈rows,r.length=sz)∧((n=0∧G.cur id=.slice none 0 0)∨∃b cap C e,G.cur id=.slice (some ⟨b,0,none⟩) n cap∧w.heap[b]?=some (.cells C e (0,0)) ∧
   n≤cap∧cap≤maxLen∧C.size=cap*sz∧0<sz∧(∀k,n*sz≤k→G.H b k=none) ∧
   (∀(i' j:Nat) (row:List lS) (c:lS),rows[i']?=some row→row[j]?=some c→∃u,(C.toList.take (n*sz))[i'*sz+j]?=some u∧pS G.H c u∧c.mZ=true)∧(t≠0→e+1=t)):=by
 cases hx with
 | p _ _ hp=>cases hp
 | ownv _ _ hp hb =>
  obtain⟨b,h1,_,h3⟩:=hb
  rw [hid] at h1;cases h1;exact absurd rfl (h3 _ _ _)
 | own _ _ n' sz' _ hp hf hn hr hc =>
  rw [hid] at hf
  simp only [ah5,mT.front.injEq] at hf
  obtain⟨rfl,rfl,rfl⟩:=hf
  have hX:=hc hlen
  refine⟨hX,hr,?_⟩
  rcases i.nY id _ hid with h1 | ⟨b,cap,C,e,h1,h2,h3,h4,h5,h50,h6,h7⟩
  ·exact .inl h1
  ·refine .inr ⟨b,cap,C,e,h1,h2,h3,h4,h5,h50,h6,fun i' j row c hi hj=>?_,h7⟩
   rw [hX,h1] at hp
   generalize hV:Value.slice (some ⟨b,0,none⟩) n cap=V0 at hp
   cases hp with
   | slice0 a cap=>simp at hi
   | slice rows b' off cap' sz2 F hr2 hc2 hH hk hV2 =>
    simp only [Value.slice.injEq,ah5,Addr.mk.injEq] at hV
    obtain⟨⟨rfl,rfl,_⟩,hn',rfl⟩:=hV
    have hs:sz2=sz:=by rw [←hr2 row (aj8 hi),hr row (aj8 hi)]
    subst hs
    have hcell:=i.ok _ _ _ (hH i' j row c hi hj)
    rw [cell_of w _ _ h2,av7] at hcell
    have hlt:i'*sz2+j<n*sz2:=by
     have hi':i'<rows.length:=(ag0.1 hi).1
     have hj':j<sz2:=by rw [←hr2 row (aj8 hi)];exact(ag0.1 hj).1
     calc i'*sz2+j<i'*sz2+sz2:=by omega
      _=(i'+1)*sz2:=by rw [aB1];omega
      _≤n*sz2:=as0 _ (by omega)
    refine⟨F (i'*sz2+j),?_,hV2 i' j row c hi hj,hk i' j row c hi hj⟩
    rw [ar0,if_pos hlt,aq2]
    exact hcell
theorem rN {t ty e:TypeId}{ti:TypeInfo}(ht:P.underlying t=some (.slice e)) (hi:P.info? e=some ti) (a b:Option Addr) (n cap c:Nat) (hn:n≤cap) :
  (Builtin.append_ #[t,t] ty #[.slice a n cap,.slice b 0 c]).run P w=.ok (.slice a n cap) w:=by
 cases a <;> cases b <;> simp [Builtin.append_,run_underlying ht,Go.sizeOf,Go.typeInfo,hi,Builtin.lenOf,Builtin.firstCells,hn,loadCells,loadCellsFrom,storeCells,Sem.run_pure]
theorem Inv.Cn (i:Inv G h w):∃G',Inv G' (h++[.front 0 0]) w∧Ext G h w G' (h++[.front 0 0]) w∧G'.cur h.length=.slice none 0 0∧G'.H=G.H:=by
 let G':Gh:={ G with cur:=fun j=>if j=h.length then .slice none 0 0 else G.cur j }
 have key:=i.push (G':=G') (ext:=[.front 0 0]) (w':=w) rfl rfl rfl (ak5 _) (fun _ _=>rfl) (fun _ _=>rfl) (fun id hid=>if_neg (by omega)) (fun _ _ _ h=>h) (fun _ _ _=>rfl)
  (fun b k v hb hv=>by have:=i.Bl (b:=b) (k:=k) (v:=v) hv;omega)
  (fun j bl hj m=>by
   cases j with
   | zero=>simp at hj;subst hj;exact .inl ⟨rfl,if_pos rfl⟩
   | succ j=>simp at hj)
  (fun j bl b hj ho=>by
   cases j with
   | zero =>
    simp at hj;subst hj
    have ho:Value.ownBlock (if h.length+0=h.length then .slice none 0 0 else G.cur (h.length+0))=some b:=ho
    rw [if_pos (aA4 _)] at ho;cases ho
   | succ j=>simp at hj)
  (fun j j' bl bl' b hj hj' _ _=>by
   have h1:j<1:=by simpa using (ag0.1 hj).1
   have h2:j'<1:=by simpa using (ag0.1 hj').1
   omega)
 exact⟨G',key.1,key.2,if_pos rfl,rfl⟩
theorem Pu {G':Gh}(hc:G'.cur h.length=.slice none 0 0):mJ G' (h++[.front 0 0]) (.slice [] (.own h.length)) (.slice none 0 0) :=
 .own (t:=0) [] h.length 0 0 _ (.slice0 none 0) (by simp) (ak5 _) (by simp) (fun _=>hc.symm)
theorem JY {t ty e:TypeId}{sz bytes:Nat}{z r:lS}{h':lT}(i:Inv G h w) (ht:P.underlying t=some (.slice e)) (hn:oO P e=some sz) (hby:uY P e=some bytes)
  (hz:qM P e=some z) (hzj:z.o7=false) (hzl:z.cells.length=sz) (hsz:sz≠0) (hb:nD sz bytes h x y=some (r,h')) (hx:mJ G h x X) (hy:mJ G h y Y) :
  ∃V w' G',(Builtin.append_ #[t,t] ty #[X,Y]).run P w=.ok V w'∧Inv G' h' w'∧Ext G h w G' h' w'∧mJ G' h' r V:=by
 obtain⟨ti,hti,hts,htb,Z,hzz,hZs⟩:∃ti,P.info? e=some ti∧ti.size=sz∧ti.bytes=bytes∧∃Z,ti.zero=some Z∧Z.cells.size=sz:=by
  unfold oO at hn;unfold uY at hby;unfold qM at hz
  cases hi:P.info? e with
  | none=>simp [hi] at hn
  | some ti =>
   simp [hi] at hn hby hz
   obtain⟨Z,hZ1,hZ2⟩:=hz
   refine⟨ti,rfl,hn,hby,Z,hZ1,?_⟩
   subst hZ2
   rw [←hzl];exact(tF hzj (tI G h Z)).1.symm
 unfold nD at hb
 split at hb
 ·-- the holder of a token
  rename_i rows id new hnew
  obtain⟨a,news,src⟩:=w7 i hnew hy
  obtain⟨capY,hYf⟩:=src.form
  split at hb
  ·rename_i n sz0 hid
   split at hb
   case isFalse=>cases hb
   rename_i hcond
   obtain⟨hlen,hszz,hbytes,hsmall⟩:=hcond
   obtain⟨hX,hrl,hcur⟩:=KX i hx hid hlen
   split at hb
   ·rename_i hm
    simp only [ah5,as7] at hb
    obtain⟨rfl,rfl⟩:=hb
    refine⟨X,w,G,?_,i,Ext.refl G h w,hx⟩
    rw [hYf,hm]
    rcases hcur with ⟨_,hc⟩ | ⟨b,cap,C,e0,hc,_,hle,_⟩
    ·rw [hX,hc];exact rN ht hti none a 0 0 capY (ak5 _)
    ·rw [hX,hc];exact rN ht hti _ a n cap capY hle
   ·rename_i hm
    simp only [ah5,as7] at hb
    obtain⟨rfl,rfl⟩:=hb
    have hposn:0<news.length:=by rw [src.len];exact Nat.mul_pos (by omega) (by omega)
    obtain⟨ad,had,_⟩:=src.at_ 0 _ (ag8 hposn)
    subst had
    have hnews:∀j u,news[j]?=some u→w.cell? (ad.add j)=some u:=fun j u hu=>by
     obtain⟨ad',e1,e2⟩:=src.at_ j u hu;cases e1;exact e2
    have hone:=src.one
    have hnl:news.length=new.length*ti.size:=by rw [hts];exact src.len
    have fin:∀(bb cap':Nat) (xs:List Value) (G':Gh),xs.length=n*sz→cap'≥n+new.length→CG G h G' (h.set id (.front (n+new.length) sz)) →
      (∀(k:Nat) u,(xs++news)[k]?=some u→G'.H bb k=some u)→G'.cur id=.slice (some ⟨bb,0,none⟩) (n+new.length) cap' →
      (∀(i' j:Nat) (row:List lS) (c:lS),rows[i']?=some row→row[j]?=some c→∃u,xs[i'*sz+j]?=some u∧pS G.H c u∧c.mZ=true) →
      (∀r∈rows,r.length=sz) →
      mJ G' (h.set id (.front (n+new.length) sz)) (.slice (rows++new) (.own id)) (.slice (some ⟨bb,0,none⟩) (n+new.length) cap'):=by
     intro bb cap' xs G' hxl hc hm' hH hcur' hcells hrl'
     have hidl:id<h.length:=(ag0.1 hid).1
     have hrl2:∀r∈rows++new,r.length=sz:=fun r hr=>(List.mem_append.1 hr).elim (hrl' r) (src.rlen r)
     have hlen2:(rows++new).length=n+new.length:=by rw [au9,hlen]
     refine .own (t:=0) _ id (n+new.length) sz _ ?_ (by simp [hidl]) (by omega) hrl2 (fun _=>hcur'.symm)
     have:=I_ (H:=G'.H) (rows:=rows++new) (sz:=sz) (b:=bb) (cap:=cap') (all:=xs++news) hrl2 (by omega) hH
      (SL (by rw [hlen];exact hxl) hrl' (fun i' j row c h1 h2=>by obtain⟨u,e1,e2,e3⟩:=hcells i' j row c h1 h2;exact⟨u,e1,e2.mono hm'.hmono,e3⟩)
       (fun i' j row c h1 h2=>by obtain⟨u,e1,e2,e3⟩:=src.rel i' j row c h1 h2;exact⟨u,e1,e2.mono hm'.hmono,e3⟩))
     rwa [hlen2] at this
    rw [hX,hYf]
    rcases hcur with ⟨rfl,hc⟩ | ⟨b,cap,C,e0,hc,hC,hle,hmx,hCs,hs0,hHn,hcells,_⟩
    ·-- nil so far
     rw [hc]
     have hrun:=run_append_nil (P:=P) w t ty e ti Z ht hti hzz ad new.length capY news hnl hnews (by omega) (by omega) (by rw [htb];rw [av7] at hbytes;omega)
     have hcapg:=grownCap_ge w new.length 0 e
     have hcapm:=grownCap_le_maxLen w new.length 0 e (by simp only [maxLen];omega)
     obtain⟨G',g1,g2,g3,g4,g5⟩:=i.grow (id:=id) (n:=0) (n':=0+new.length) (t':=0) (sz:=sz0) (sz':=sz) (bb:=w.heap.size) (cap':=grownCap w new.length 0 e) (all:=news)
      (w':=w.drew.alloc (.cells (news.toArray++Builtin.zeroCells Z.cells (grownCap w new.length 0 e-new.length)) e)) hid (by omega) (by omega) rfl rfl rfl (by simp)
      (fun k hk _ _=>oU w.drew _ k hk) (.inl (ak5 _)) (heap_alloc_new w.drew _) (by omega) hcapm
      (by simp only [Array.size_append,List.size_toArray,size_zeroCells,hZs,src.len,←aB1];congr 1;omega)
      (by omega) (by rw [src.len];simp) (fun k u hu=>by
       rw [Array.getElem?_append_left (by simpa using (ag0.1 hu).1)];simpa using hu)
      (fun k v hv=>by have:=i.Bl hv;omega) (fun h=>absurd rfl h)
     refine⟨_,_,G',hrun,g1,g2,?_⟩
     have:=fin w.heap.size (grownCap w new.length 0 e) [] G' (by simp) (by omega) g2.toMono (by simpa using g4) g5 (fun i' j row c h1 _=>by
      have:rows=[]:=as8 hlen
      subst this;simp at h1) (fun r hr=>by
      have:rows=[]:=as8 hlen
      subst this;cases hr)
     simpa using this
    ·have hs:sz0=sz:=by omega
     rw [hc]
     by_cases hroom:n+new.length≤cap
     ·subst hs
      have hfit:n*ti.size+news.length≤C.size:=by rw [hts,src.len,hCs,←aB1];exact as0 _ hroom
      have hf:=run_firstCells_some (P:=P) w ti.size new.length ad new.length capY news hnl hnews
      have hst:=run_storeCells_at P b (n*ti.size) e0 news 0 C w hC (by simpa using hfit) hone
      simp only [aA4] at hst
      have hrun:(Builtin.append_ #[t,t] ty #[.slice (some ⟨b,0,none⟩) n cap,.slice (some ad) new.length capY]).run P w =
        .ok (.slice (some ⟨b,0,none⟩) (n+new.length) cap) (w.setRow b (C.toList.take (n*ti.size)++news++C.toList.drop (n*ti.size+news.length)).toArray):=by
       simp [Builtin.append_,run_underlying ht,Go.sizeOf,Go.typeInfo,hti,Builtin.lenOf,hroom,hf,Addr.add_lit,hst]
      rw [hts] at hrun hfit
      have hxl:(C.toList.take (n*sz0)).length=n*sz0:=by rw [ar6,av9];omega
      obtain⟨G',g1,g2,g3,g4,g5⟩:=i.grow (id:=id) (n:=n) (n':=n+new.length) (t':=0) (sz:=sz0) (sz':=sz0) (bb:=b) (cap':=cap) (all:=C.toList.take (n*sz0)++news)
       (C':=(C.toList.take (n*sz0)++news++C.toList.drop (n*sz0+news.length)).toArray) (e':=e0)
       (w':=w.setRow b (C.toList.take (n*sz0)++news++C.toList.drop (n*sz0+news.length)).toArray) hid (by omega) (fun _=>rfl) (by simp) (by simp) (by simp) (by simp)
       (fun k hk _ hne=>setRow_other w b k _ hne) (.inr (by rw [hc];rfl)) (setRow_heap w b C _ e0 _ hC) hroom hmx
       (by simp;omega) hs0
       (by rw [au9,hxl,src.len,aB1]) (fun k u hu=>by
        rw [List.getElem?_toArray,aq3 (ag0.1 hu).1];exact hu)
       (fun k v hv=>by
        have hk:k<n*sz0:=Classical.byContradiction fun hk=>by rw [hHn k (by omega)] at hv;cases hv
        have:=i.ok _ _ _ hv
        rw [cell_of w _ _ hC] at this
        rw [aq3 (by omega),ar0,if_pos hk,aq2];exact this) (fun h=>absurd rfl h)
      exact⟨_,_,G',hrun,g1,g2,fin b cap _ G' hxl hroom g2.toMono g4 g5 hcells hrl⟩
     ·subst hs
      have hxl:(C.toList.take (n*sz0)).length=n*sz0:=by
       rw [ar6,av9,hCs]
       have:n*sz0≤cap*sz0:=as0 _ hle
       omega
      have hxc:∀j u,(C.toList.take (n*sz0))[j]?=some u→w.cell? ((⟨b,0,none⟩:Addr).add j)=some u:=by
       intro j u hu
       rw [ar0] at hu
       split at hu
       ·rw [add_plain,cell_of w _ _ hC,av7];rwa [aq2] at hu
       ·cases hu
      have hrun:=run_append_grow (P:=P) w t ty e ti Z ht hti hzz ⟨b,0,none⟩ n cap (C.toList.take (n*sz0)) (by rw [hts];exact hxl) hxc ad new.length capY news hnl hnews (by omega) (by omega)
       (growslice_fits (by omega) (by rw [htb];exact hbytes))
      have hcapg:=grownCap_ge w (n+new.length) cap e
      have hcapm:=grownCap_le_maxLen w (n+new.length) cap e (by simp only [maxLen];omega)
      obtain⟨G',g1,g2,g3,g4,g5⟩:=i.grow (id:=id) (n:=n) (n':=n+new.length) (t':=0) (sz:=sz0) (sz':=sz0) (bb:=w.heap.size) (cap':=grownCap w (n+new.length) cap e) (all:=C.toList.take (n*sz0)++news)
       (w':=w.drew.alloc (.cells ((C.toList.take (n*sz0)).toArray++news.toArray++Builtin.zeroCells Z.cells (grownCap w (n+new.length) cap e-(n+new.length))) e)) hid (by omega)
       (fun _=>rfl) rfl rfl rfl (by simp)
       (fun k hk _ _=>oU w.drew _ k hk) (.inl (ak5 _)) (heap_alloc_new w.drew _) (by omega) hcapm
       (by simp only [Array.size_append,List.size_toArray,size_zeroCells,hZs,src.len,hxl,←aB1];congr 1;omega)
       (by omega) (by rw [au9,hxl,src.len,aB1]) (fun k u hu=>by
        have hk:=(ag0.1 hu).1
        rw [Array.getElem?_append_left (by simpa using hk),List.append_toArray,List.getElem?_toArray];exact hu)
       (fun k v hv=>by have:=i.Bl hv;omega) (fun h=>absurd rfl h)
      exact⟨_,_,G',hrun,g1,g2,fin w.heap.size _ _ G' hxl (by omega) g2.toMono g4 g5 hcells hrl⟩
  ·cases hb
 ·-- a nil slice without a token
  rename_i new hnew
  obtain⟨a,news,src⟩:=w7 i hnew hy
  obtain⟨capY,hYf⟩:=src.form
  have hX:=hx.Nn
  split at hb
  ·rename_i hm
   simp only [ah5,as7] at hb
   obtain⟨rfl,rfl⟩:=hb
   refine⟨X,w,G,?_,i,Ext.refl G h w,hx⟩
   rw [hYf,hm,hX]
   exact rN ht hti none a 0 0 capY (ak5 _)
  ·rename_i hm
   split at hb
   case isFalse=>cases hb
   rename_i hcond
   obtain⟨hbytes,hsmall⟩:=hcond
   simp only [ah5,as7] at hb
   obtain⟨rfl,rfl⟩:=hb
   have hposn:0<news.length:=by rw [src.len];exact Nat.mul_pos (by omega) (by omega)
   obtain⟨ad,had,_⟩:=src.at_ 0 _ (ag8 hposn)
   subst had
   have hnews:∀j u,news[j]?=some u→w.cell? (ad.add j)=some u:=fun j u hu=>by
    obtain⟨ad',e1,e2⟩:=src.at_ j u hu;cases e1;exact e2
   have hnl:news.length=new.length*ti.size:=by rw [hts];exact src.len
   obtain⟨G1,i1,x1,hc1,hH1⟩:=i.Cn
   rw [hX,hYf]
   have hrun:=run_append_nil (P:=P) w t ty e ti Z ht hti hzz ad new.length capY news hnl hnews (by omega) (by omega) (by rw [htb];omega)
   have hcapg:=grownCap_ge w new.length 0 e
   have hcapm:=grownCap_le_maxLen w new.length 0 e (by simp only [maxLen];omega)
   obtain⟨G',g1,g2,g3,g4,g5⟩:=i1.grow (id:=h.length) (n:=0) (n':=new.length) (t:=0) (t':=0) (sz:=0) (sz':=sz) (bb:=w.heap.size) (cap':=grownCap w new.length 0 e) (all:=news)
    (w':=w.drew.alloc (.cells (news.toArray++Builtin.zeroCells Z.cells (grownCap w new.length 0 e-new.length)) e)) (by simp) (by omega) (by omega) rfl rfl rfl (by simp)
    (fun k hk _ _=>oU w.drew _ k hk) (.inl (ak5 _)) (heap_alloc_new w.drew _) (by omega) hcapm
    (by simp only [Array.size_append,List.size_toArray,size_zeroCells,hZs,src.len,←aB1];congr 1;omega)
    (by omega) src.len (fun k u hu=>by
     rw [Array.getElem?_append_left (by simpa using (ag0.1 hu).1)];simpa using hu)
    (fun k v hv=>by have:=i1.Bl hv;omega) (fun h=>absurd rfl h)
   have hset:(h++[mT.front 0 0]).set h.length (.front new.length sz)=h++[.front new.length sz]:=by simp
   rw [hset] at g1 g2
   refine⟨_,_,G',hrun,g1,x1.trans g2,?_⟩
   have m:=(x1.trans g2).toMono
   refine .own (t:=0) _ h.length new.length sz _ ?_ (by simp) (ak5 _) src.rlen (fun _=>g5.symm)
   exact I_ src.rlen hcapg (fun k u hu=>g4 k u hu) (fun i' j row c h1 h2=>by
    obtain⟨u,e1,e2,e3⟩:=src.rel i' j row c h1 h2;exact⟨u,e1,e2.mono m.hmono,e3⟩)
 ·cases hb
end
end
section
open Go Go.RowKit
section
variable {P:Program}{G:Gh}{h:lT}{w:World}{x y v:lS}{X Y V:Value}
theorem Inv.newAt (i:Inv G h w) {id n:Nat}{v p:lS}{h':lT}{Z:Value}(t:TypeId) (hb:wK id n h v=some (p,h')) (hr:mJ G h v Z) :
  ∃G',Inv G' h' (w.alloc (.cells Z.cells t))∧Ext G h w G' h' (w.alloc (.cells Z.cells t))∧mJ G' h' p (.pointer (some ⟨w.heap.size,0,none⟩))∧Z.cells.size=n:=by
 unfold wK at hb
 simp only [] at hb
 split at hb
 ·rename_i hid
  split at hb
  case isFalse=>cases hb
  rename_i hcond
  obtain⟨hlen,hall⟩:=hcond
  simp only [ah5,as7] at hb
  obtain⟨rfl,rfl⟩:=hb
  obtain⟨c1,c2⟩:=Cc hr hall
  have hidl:id<h.length:=(ag0.1 hid).1
  let G':Gh:={ G with nY:=fun j=>if j=id then w.heap.size else G.nY j }
  have key:=i.step (G':=G') (w':=w.alloc (.cells Z.cells t)) id .free (.cells v.cells) hid rfl rfl rfl (by simp) (fun k hk _=>oU w _ k hk) (fun j hj=>if_neg hj) (fun _ _=>rfl)
   (fun _ _ _ hh=>hh) (fun _ _ _ _=>rfl) (fun b k v hb hv=>by
    rcases hb with hb | hb
    ·have:=i.Bl (b:=b) (k:=k) (v:=v) hv;omega
    ·cases hb) trivial
   (fun m=>⟨Z.cells,t,by show(w.alloc _).heap[if id=id then w.heap.size else _]?=_;rw [if_pos rfl];exact heap_alloc_new w _,by omega,
    fun k=>by show G.H (if id=id then w.heap.size else _) k=none;rw [if_pos rfl];exact i.E2 (ak5 _),fun j u hu=>⟨(c2 j u hu).1,(c2 j u hu).2.mono m⟩⟩)
   (fun b hb=>by
    have hb:some (if id=id then w.heap.size else G.nY id)=some b:=hb
    rw [if_pos rfl] at hb;cases hb;exact .inl (ak5 _))
  refine⟨G',key.1,key.2,?_,by omega⟩
  have hp:=mJ.ptr (G:=G') (h:=h.set id (.cells v.cells)) id 0 ⟨.cells v.cells,by simp [hidl],by simp⟩
  have he:G'.nY id=w.heap.size:=if_pos rfl
  rwa [he] at hp
 ·cases hb
theorem Inv.YO (i:Inv G h w) {id len sz:Nat}{cs row:List lS}{C:Array Value}(e:TypeId) (hid:h[id]?=some .free) (hc:GC G h cs C) (hp:oM cs=some row) (hl:C.size=len*sz) (hmax:len≤maxLen) (hsz0:0<sz) :
  ∃G',Inv G' (h.set id (.front len sz)) (w.alloc (.cells C e))∧Ext G h w G' (h.set id (.front len sz)) (w.alloc (.cells C e)) ∧
   mJ G' (h.set id (.front len sz)) (.slice (rowsOf len sz row) (.own id)) (.slice (some ⟨w.heap.size,0,none⟩) len len):=by
 obtain⟨p1,p2⟩:=qO hp
 obtain⟨c1,c2⟩:=hc
 have hidl:id<h.length:=(ag0.1 hid).1
 have hHlt:∀{b k v},G.H b k=some v→b≠w.heap.size:=fun hv=>by have:=i.Bl hv;omega
 have hmono:∀b k v,G.H b k=some v→(G.qU id w.heap.size C (.slice (some ⟨w.heap.size,0,none⟩) len len)).H b k=some v:=by
  intro b k v hv;simp only [Gh.qU,if_neg (hHlt hv),hv]
 have key:=i.step (G':=G.qU id w.heap.size C (.slice (some ⟨w.heap.size,0,none⟩) len len)) (w':=w.alloc (.cells C e)) id .free (.front len sz) hid
  rfl rfl rfl (by simp) (fun k hk _=>oU w _ k hk) (fun j hj=>rfl) (fun j hj=>by simp only [Gh.qU];rw [if_neg hj]) hmono
  (fun b k hb _=>by simp only [Gh.qU];rw [if_neg (by omega)])
  (fun b k v _ hv=>by
   by_cases hbe:b=w.heap.size
   ·subst hbe
    simp only [Gh.qU,if_true] at hv
    rw [cell_of _ _ _ (heap_alloc_new w _),hv]
   ·simp only [Gh.qU,if_neg hbe] at hv
    have hlt:=i.Bl hv
    rw [World.cell?_of_block (w:=w) (a:=⟨b,k,none⟩) (oU w _ b hlt)]
    exact i.ok b k v hv) trivial
  (fun m=>.inr ⟨w.heap.size,len,C,e,by simp [Gh.qU],heap_alloc_new w _,ak5 _,hmax,hl,hsz0,fun k hk=>by
    simp only [Gh.qU,if_true]
    exact Array.getElem?_eq_none (by omega),fun h=>absurd rfl h⟩)
  (fun b ho=>by simp only [nR,Gh.qU,if_true,Value.ownBlock,ah5] at ho;exact .inl (by omega))
 refine⟨_,key.1,key.2,?_⟩
 have hlen:(rowsOf len sz row).length=len:=(q9 len sz row (by omega)).1
 refine .own (t:=0) _ id len sz _ ?_ (by simp [hidl]) (by omega) (q9 len sz row (by omega)).2.1 (fun _=>by simp [Gh.qU])
 refine Aj (F:=fun j=>C.getD j undef) (by omega) (ak5 _) fun j c hj hlt=>?_
 have hjl:j<C.size:=by omega
 obtain⟨c0,hc0⟩:∃c0,cs[j]?=some c0:=⟨cs[j]'(by omega),ag8 (by omega)⟩
 obtain⟨c',e1,e2⟩:=p2 j c0 hc0
 rw [hj] at e1;cases e1
 obtain⟨q1,q2⟩:=uQ e2 (c2 j c0 hc0)
 refine⟨?_,q1.mono hmono,q2⟩
 simp [Gh.qU,aj5,hjl]
theorem CH {t e:TypeId}{id len sz:Nat}{z r:lS}{h':lT}{parts:Array (Nat×Operand)}{f:Operand→lS}{F:Operand→Value}
  (i:Inv G h w) (ht:P.underlying t=some (.slice e)) (hz:qM P e=some z) (hn:oO P e=some sz) (hsz:sz≠0) (hle:len*sz≤16777216) (hf:∀o,mJ G h (f o) (F o)) (hzj:z.o7=false)
  (hb:qN id len sz z.cells (parts.toList.map fun p=>(p.1,f p.2)) h=some (r,h')) :
  ∃V w' G',(Instr.buildSlice t len (parts.map fun(i,x)=>(i,F x))).run P w=.ok V w'∧Inv G' h' w'∧Ext G h w G' h' w'∧mJ G' h' r V:=by
 unfold qN at hb
 split at hb
 ·rename_i rows hid hrows
  simp only [ah5,as7] at hb
  obtain⟨rfl,rfl⟩:=hb
  obtain⟨cs,row,C,h1,rfl,h3,h4,h5,h6⟩:=xV (G:=G) (h:=h) (w:=w) ht hz hn hsz hle hf hzj hrows
  obtain⟨G',g1,g2,g3⟩:=i.YO e hid h3 h1 h4 h5 (by omega)
  exact⟨_,_,G',h6,g1,g2,g3⟩
 ·cases hb
theorem LP {t:TypeId}{id n:Nat}{p:lS}{h':lT}(i:Inv G h w) (hb:wK id n h x=some (p,h')) (hx:mJ G h x X) :
  ∃V w' G',(Instr.box t X).run P w=.ok V w'∧Inv G' h' w'∧Ext G h w G' h' w'∧mJ G' h' p V:=by
 obtain⟨G',h1,h2,h3,_⟩:=i.newAt t hb hx
 exact⟨_,_,G',by simp [Instr.box,newVar,newRow,Sem.run_pure],h1,h2,h3⟩
theorem Hz {t:TypeId}{id n:Nat}{z p:lS}{h':lT}(i:Inv G h w) (hz:qM P t=some z) (hb:wK id n h z=some (p,h')) :
  ∃V w' G',(Instr.alloc t true (.tuple #[])).run P w=.ok V w'∧Inv G' h' w'∧Ext G h w G' h' w'∧mJ G' h' p V:=by
 obtain⟨Z,hz1,hz2⟩:=rD (P:=P) (G:=G) (h:=h) (w:=w) hz
 obtain⟨G',h1,h2,h3,_⟩:=i.newAt t hb hz2
 refine⟨_,_,G',?_,h1,h2,h3⟩
 simp [Instr.alloc,hz1,newVar,newRow,Sem.run_pure]
end
end
section
open Go Go.RowKit
section
variable {P:Program}{G:Gh}{h:lT}{w:World}{x y v:lS}{X Y V:Value}
theorem Inv.YN (i:Inv G h w) {cs:List lS}{C:Array Value}(e:TypeId) (hc:GC G h cs C) (hk:∀u∈cs,u.mZ=true) :
  ∃G',Inv G' (h++[.cells cs]) (w.alloc (.cells C e))∧Ext G h w G' (h++[.cells cs]) (w.alloc (.cells C e))∧G'.nY h.length=w.heap.size:=by
 obtain⟨c1,c2⟩:=hc
 refine⟨{ G with nY:=fun j=>if j=h.length then w.heap.size else G.nY j },?_⟩
 have key:=i.push (G':={ G with nY:=fun j=>if j=h.length then w.heap.size else G.nY j }) (ext:=[.cells cs]) (w':=w.alloc (.cells C e))
  rfl rfl rfl (by simp) (fun k hk=>oU w _ k hk) (fun id hid=>by show(if id=h.length then _ else _)=_;rw [if_neg (by omega)]) (fun id hid=>rfl) (fun _ _ _ hh=>hh) (fun _ _ _=>rfl)
  (fun b k v hb hv=>by have:=i.Bl (b:=b) (k:=k) (v:=v) hv;omega)
  (fun j bl hj m=>by
   cases j with
   | zero =>
    simp at hj;subst hj
    refine⟨C,e,by simp only [aA4,if_true];exact heap_alloc_new w _,by omega,fun k=>by simp only [aA4,if_true];exact i.E2 (ak5 _),fun j u hu=>?_⟩
    exact⟨hk u (aj8 hu),(c2 j u hu).mono m⟩
   | succ j=>simp at hj)
  (fun j bl b hj ho=>by
   cases j with
   | zero=>simp at hj;subst hj;simp only [nR,aA4,if_true,ah5] at ho;omega
   | succ j=>simp at hj)
  (fun j j' bl bl' b hj hj' _ _=>by
   have h1:j<1:=by simpa using (ag0.1 hj).1
   have h2:j'<1:=by simpa using (ag0.1 hj').1
   omega)
 exact⟨key.1,key.2,by simp⟩
theorem E8 {t e:TypeId}{sz by_:Nat}{z r:lS}{h':lT}(i:Inv G h w) (ht:P.underlying t=some (.slice e)) (hn:oO P e=some sz) (hby:uY P e=some by_) (hz:qM P e=some z)
  (hj:z.o7=false) (hl:z.cells.length=sz) (hk:z.cells.all lS.mZ=true) (hb:rB sz by_ z.cells x h=some (r,h')) {k k':IntKind}{n:Int}(hxn:x=.int k n) (hX:X=.int k n) (hY:Y=.int k' n) :
  ∃V w' G',(Instr.makeSlice t X Y).run P w=.ok V w'∧Inv G' h' w'∧Ext G h w G' h' w'∧mJ G' h' r V:=by
 subst hxn;subst hX;subst hY
 simp only [rB] at hb
 split at hb
 case isFalse=>cases hb
 rename_i hcond
 obtain⟨hn0,hbytes,hmax⟩:=hcond
 simp only [ah5,as7] at hb
 obtain⟨rfl,rfl⟩:=hb
 obtain⟨m,rfl⟩:=Int.eq_ofNat_of_zero_le hn0
 simp only [Int.toNat_natCast] at *
 unfold oO at hn;unfold uY at hby;unfold qM at hz
 cases hi:P.info? e with
 | none=>simp [hi] at hn
 | some ti =>
  simp only [hi,Option.map_some,ah5,Option.bind_some,ah7] at hn hby hz
  obtain⟨Z,hZ,hz⟩:=hz
  have hrun:=run_make (P:=P) w t e ti Z ht hi hZ k k' m m hn0 (Int.le_refl _) (by
   rw [hby]
   have:((m*by_:Nat):Int)≤140737488355328:=by omega
   rw [Int.natCast_mul] at this
   rw [Int.mul_comm];omega) (by omega)
  have hrz:mJ G h z Z:=by rw [←hz];exact tI G h Z
  have hcz:=tF hj hrz
  have hrc:=u_ (G:=G) (h:=h) hcz m
  have hmade:madeCells Z.cells ((m:Int).toNat*ti.size)=(Array.range (m*Z.cells.size)).map fun j=>Z.cells[j%Z.cells.size]! := by
   rw [hn,←hl,hcz.1];simp [madeCells]
  rw [hmade] at hrun
  obtain⟨G',h1,h2,h3⟩:=i.YN e hrc (fun u hu=>by
   obtain⟨l,hl1,hl2⟩:=List.mem_flatten.1 hu
   rw [(List.mem_replicate.1 hl1).2] at hl2
   exact aq5.1 hk u hl2)
  refine⟨_,_,G',hrun,h1,h2,?_⟩
  have:=mJ.mslice (G:=G') (h:=h++[.cells (ak7 m z.cells).flatten]) h.length 0 m sz m ⟨.cells (ak7 m z.cells).flatten,by simp,by simp⟩ (ak5 _)
  rw [h3] at this
  simpa using this
theorem Inv.aoC (i:Inv G h w):∃G',Inv G' (h++[.map []]) (w.alloc (.map #[] 0))∧Ext G h w G' (h++[.map []]) (w.alloc (.map #[] 0))∧mJ G' (h++[.map []]) (.map h.length) (.map (some w.heap.size)):=by
 refine⟨{ G with nY:=fun j=>if j=h.length then w.heap.size else G.nY j },?_⟩
 have key:=i.push (G':={ G with nY:=fun j=>if j=h.length then w.heap.size else G.nY j }) (ext:=[.map []]) (w':=w.alloc (.map #[] 0))
  rfl rfl rfl (by simp) (fun k hk=>oU w _ k hk) (fun id hid=>by show(if id=h.length then _ else _)=_;rw [if_neg (by omega)]) (fun id hid=>rfl) (fun _ _ _ hh=>hh) (fun _ _ _=>rfl)
  (fun b k v hb hv=>by have:=i.Bl (b:=b) (k:=k) (v:=v) hv;omega)
  (fun j bl hj m=>by
   cases j with
   | zero =>
    simp at hj;subst hj
    refine⟨#[],0,by simp only [aA4,if_true];exact(MapKept.heap_alloc w _).1,rfl,fun k=>by simp only [aA4,if_true];exact i.E2 (ak5 _),by simp,MapKept.stamped_empty 0⟩
   | succ j=>simp at hj)
  (fun j bl b hj ho=>by
   cases j with
   | zero=>simp at hj;subst hj;simp only [nR,aA4,if_true,ah5] at ho;omega
   | succ j=>simp at hj)
  (fun j j' bl bl' b hj hj' _ _=>by
   have h1:j<1:=by simpa using (ag0.1 hj).1
   have h2:j'<1:=by simpa using (ag0.1 hj').1
   omega)
 refine⟨key.1,key.2,?_⟩
 have:=mJ.map (G:={ G with nY:=fun j=>if j=h.length then w.heap.size else G.nY j }) (h:=h++[.map []]) h.length ⟨.map [],by simp,by simp⟩
 simpa using this
theorem J7 {t kt e:TypeId}{d:TypeDesc}{z:lS}{ok:Bool}(i:Inv G h w) (ht:P.underlying t=some (.map kt e)) (hd:P.underlying kt=some d) (hz:qM P e=some z) (hf:rO d y=true)
  (hb:Ma z ok h x y=some v) (hx:mJ G h x X) (hy:mJ G h y Y):∃V,(Instr.lookup t X Y ok).run P w=.ok V w∧mJ G h v V:=by
 unfold Ma at hb;cases hb
theorem J9 {t kt e:TypeId}{d:TypeDesc}{h':lT}(i:Inv G h w) (ht:P.underlying t=some (.map kt e)) (hd:P.underlying kt=some d) (hf:rO d y=true)
  (hb:DQ h x y v=some h') (hx:mJ G h x X) (hy:mJ G h y Y) (hv:mJ G h v V):∃w',(Instr.mapUpdate t X Y V).run P w=.ok () w'∧Inv G h' w'∧Ext G h w G h' w':=by
 unfold DQ at hb;cases hb
theorem J8 {t kt e ty:TypeId}{d:TypeDesc}{h':lT}(i:Inv G h w) (ht:P.underlying t=some (.map kt e)) (hd:P.underlying kt=some d) (hf:rO d y=true)
  (hb:DP h x y=some h') (hx:mJ G h x X) (hy:mJ G h y Y) {ts:Array TypeId}(hts:ts[0]?=some t):∃w',(Builtin.delete_ ts ty #[X,Y]).run P w=.ok (.tuple #[]) w'∧Inv G h' w'∧Ext G h w G h' w':=by
 unfold DP at hb;cases hb
theorem w8:∀{rows:List (List lS)}{bs:List UInt8},bytesOf rows=some bs→∃ns:List Int,rows=ns.map (fun n=>[lS.int .u8 n])∧bs=ns.map fun n=>UInt8.ofNat n.toNat
 | [],bs,hb=>by simp [bytesOf] at hb;subst hb;exact⟨[],rfl,rfl⟩
 | row::r,bs,hb=>by
  unfold bytesOf at hb
  split at hb
  ·rename_i h0;cases h0
  ·rename_i n r' h0
   cases h0
   split at hb
   ·rename_i bs' hbs
    cases hb
    obtain⟨ns,h1,h2⟩:=w8 hbs
    exact⟨n::ns,by simp [h1],by simp [h2]⟩
   ·cases hb
  ·cases hb
theorem wL {ns:List Int}(hrows:sR 1 h x=some (ns.map (fun n=>[lS.int .u8 n]))) (i:Inv G h w) (hx:mJ G h x X):∃V,(Conv.bytesToString X).run P w=.ok V w∧mJ G h (.str (ns.map fun n=>UInt8.ofNat n.toNat)) V:=by
 obtain⟨a,news,s⟩:=w7 i hrows hx
 obtain⟨cap,hX⟩:=s.form
 have hnews:news=ns.map (Value.int .u8):=by
  apply List.ext_getElem?
  intro j
  cases hj:ns[j]? with
  | none =>
   have:ns.length≤j:=List.getElem?_eq_none_iff.1 hj
   rw [List.getElem?_eq_none (by rw [s.len];simp;exact this),List.getElem?_eq_none (by simpa using this)]
  | some n =>
   obtain⟨u,h1,h2,_⟩:=s.rel j 0 [lS.int .u8 n] (.int .u8 n) (by simp [hj]) rfl
   simp only [Nat.mul_one,aA4] at h1
   rw [h1,ak4,hj]
   cases h2;rfl
 have hstr:(ns.foldl (fun r n=>r.push (UInt8.ofNat n.toNat)) ByteArray.empty)=⟨(ns.map fun n=>UInt8.ofNat n.toNat).toArray⟩:=by
  have:∀(ns:List Int) (b:ByteArray),ns.foldl (fun r n=>r.push (UInt8.ofNat n.toNat)) b=⟨(b.data.toList++ns.map fun n=>UInt8.ofNat n.toNat).toArray⟩:=by
   intro ns
   induction ns with
   | nil=>intro b;cases b;simp
   | cons n ns ih=>intro b;rw [List.foldl_cons,ih];cases b;simp [ByteArray.push]
  rw [this];rfl
 refine⟨.string ⟨(ns.map fun n=>UInt8.ofNat n.toNat).toArray⟩,?_,.p _ _ (.str _)⟩
 rw [hX]
 cases a with
 | none =>
  have h0:ns=[]:=by
   cases ns with
   | nil=>rfl
   | cons n ns =>
    obtain⟨ad,h1,_⟩:=s.at_ 0 (.int .u8 n) (by rw [hnews];rfl)
    cases h1
  subst h0
  rfl
 | some ad =>
  have hload:(loadCells ad (ns.map (fun n=>[lS.int .u8 n])).length).run P w=.ok (ns.map (Value.int .u8)).toArray w:=by
   have:=run_loadCells (P:=P) w ad ns.length (fun j=>news.getD j undef) (fun j hj=>by
    have hjn:news[j]?=some (news.getD j undef):=by
     rw [ah6,ag8 (by rw [hnews];simpa using hj)];rfl
    obtain⟨ad',h1,h2⟩:=s.at_ j _ hjn
    cases h1;exact h2)
   rw [List.length_map,this]
   congr 1
   apply Array.ext'
   simp only [List.toList_toArray] at *
   apply List.ext_getElem?
   intro j
   rw [hnews]
   by_cases hj:j<ns.length
   ·simp [hj,ah6]
   ·simp [List.getElem?_eq_none (show ns.length≤j by omega),hj]
  have:=run_bytesToString (P:=P) w ad _ cap ns hload
  rw [hstr] at this
  exact this
theorem GD (i:Inv G h w) (hb:uI x=some v) (hx:mJ G h x X):∃V,(Conv.bytesToString X).run P w=.ok V w∧mJ G h v V:=by
 unfold uI at hb
 split at hb
 ·rename_i rows tok
  simp only [ah7] at hb
  obtain⟨bs,hbs,rfl⟩:=hb
  obtain⟨ns,rfl,rfl⟩:=w8 hbs
  have hrows:sR 1 h (.slice (ns.map (fun n=>[lS.int .u8 n])) tok)=some (ns.map (fun n=>[lS.int .u8 n])):=by
   simp [sR]
  exact wL hrows i hx
 ·cases hb
theorem J0 (i:Inv G h w) (hb:Cb h x=some v) (hx:mJ G h x X):∃V,(Conv.bytesToString X).run P w=.ok V w∧mJ G h v V:=by
 unfold Cb at hb
 split at hb
 ·split at hb
  ·rename_i rows hrows
   simp only [ah7] at hb
   obtain⟨bs,hbs,rfl⟩:=hb
   obtain⟨ns,rfl,rfl⟩:=w8 hbs
   exact wL hrows i hx
  ·cases hb
 ·split at hb
  ·rename_i rows hrows
   simp only [ah7] at hb
   obtain⟨bs,hbs,rfl⟩:=hb
   obtain⟨ns,rfl,rfl⟩:=w8 hbs
   exact wL hrows i hx
  ·cases hb
 ·exact GD i hb hx
def Hw (P:Program) (f g:Nat):Prop :=
 (∀(X:Array Value) (w:World),(callFunc f X).run P w=.ok (.enter f X) w) ∧
 (∀(a:Option Addr) (cap:Nat) (F C:Array Value) (w:World),Calls P f #[.slice a 0 cap,.func (.func g) F C] w fun e w'=>e=.returned (.tuple #[])∧w'=w) ∧
 ∀(w:World) (nY cap:Nat) (C:Array Value) (e:TypeId) (zs:List Int) (pb po sb so len cp:Nat) (key:Int→Int),
  w.heap[nY]?=some (.cells C e (0,0))→zs≠[]→zs.length≤1048576→(∀(j:Nat) (n:Int),zs[j]?=some n→C[j]?=some (.int .i64 n)) →
  w.cell? ⟨pb,po,none⟩=some (.slice (some ⟨sb,so,none⟩) len cp)→pb≠nY→sb≠nY →
  (∀x∈zs,0≤x∧x.toNat<len∧w.cell? ⟨sb,so+x.toNat*2,none⟩=some (.int .i64 (key x))) →
  Calls P f #[.slice (some ⟨nY,0,none⟩) zs.length cap,.func (.func g) #[] #[.pointer (some ⟨pb,po,none⟩)]] w fun e w'=>e=.returned (.tuple #[]) ∧
   w'.os=w.os∧w'.tape=w.tape∧w'.output=w.output∧∃os,w'.heap=(w.setRow nY ((zs.mergeSort (q8 key)).map (Value.int .i64)++C.toList.drop zs.length).toArray).heap++os
def azD (P:Program) (A:xO) (f:Nat) (g:List lS→Option lS):Prop :=
 (∀(X:Array Value) (w:World),(callFunc f X).run P w=.ok (.enter f X) w) ∧
 ∀(G:Gh) (h:lT) (w:World) (args:List lS) (X:Array Value) (v:lS),Inv G h w→qC A G h w→args.length=X.size→(∀(i:Nat) (u:lS),args[i]?=some u→mJ G h u (X.getD i undef))→g args=some v →
  Calls P f X w fun e w'=>(∃V,e=.returned V∧pS G.H v V)∧w'.os=w.os∧w'.tape=w.tape∧w'.output=w.output∧∃os,w'.heap=w.heap++os
def agT (P:Program) (A:xO) (f:Nat):aaQ→Prop
 | .fn g=>azD P A f g
 | _=>False
def tK (P:Program) (A:xO):Prop:=(∀f,A.ext f=some .indexByte→∃fn,P.funcs[f]?=some fn∧(fn.name == "runtime.NumGoroutine")=false∧fn.body.isNone=true∧Extern.findNext fn=none∧Extern.find fn=some Extern.BytealgIndexByte.indexByte)∧(∀f g,A.srf f=some g→Hw P f g)∧∀f k,A.prm f=some k→agT P A f k
theorem J5 (l:List UInt8) (c:UInt8):vK l c=Lib.indexByte l c:=by
 induction l with
 | nil=>rfl
 | cons b l ih=>simp only [vK,Lib.indexByte,ih]
theorem Iw {A:xO}{f:Nat}{k:aaG}{args:List lS}{r:nT×lT}{Xs:Array Value}(hX:tK P A) (hf:A.ext f=some k) (hb:ak3 k args h=some r) (hl:args.length=Xs.size)
  (hr:∀(i:Nat) (v:lS),args[i]?=some v→mJ G h v (Xs.getD i undef)):∃v V,r=(.ret v,h)∧(callFunc f Xs).run P w=.ok (.value V) w∧mJ G h v V:=by
 unfold ak3 at hb
 simp only [ah7] at hb
 obtain⟨v,hv,rfl⟩:=hb
 cases k with
 | indexByte =>
  unfold auY at hv
  split at hv
  ·rename_i s c _
   cases hv
   obtain⟨fn,e1,e2,e3,e4,e5⟩:=hX.1 f hf
   have h0:=(hr 0 _ rfl).xH
   have h1:=(hr 1 _ rfl).qE
   have hXs:Xs=#[.string ⟨s.toArray⟩,.int .u8 c]:=by
    obtain⟨l⟩:=Xs
    match l,hl,h0,h1 with
    | [a,b],_,h0,h1=>simp at h0 h1;subst h0;subst h1;rfl
   refine⟨_,.int .i64 (vK s (UInt8.ofNat c.toNat)),rfl,?_,.p _ _ (.int _ _)⟩
   rw [run_callFunc_extern e1 e2 e3 e4 e5,hXs,Lib.run_indexByteString,J5]
   rfl
  ·cases hv
end
end
end Hk
