/-
  The texts Vk.Abs, Vk.Eval, Vk.Rel, Vk.Base, Vk.Pure, Vk.Pure2, Vk.Pure3, Vk.Mem, Vk.Mem2, Vk.Mem3, Vk.Mem4, Vk.Mem5, Vk.Mem6, Vk.Mem7, Vk.Mem8, Vk.Mem9, one behind another. No conditions.
-/
import Derived.WalkKit
import Derived.MapKept
import Derived.Laws.MakeOwn
import Derived.Laws.BytesString
import Derived.Lib.Bytealg
import Derived.RangeFuncSeq
set_option linter.unusedVariables false
set_option linter.unusedSimpArgs false
set_option linter.all false
open Array renaming getD_eq_getD_getElem? → af2, getElem?_toList → al9
open List renaming all_eq_true → am7, eq_nil_of_length_eq_zero → aq9, getD_eq_getElem?_getD → ae9, getElem?_append_left → am3, getElem?_append_right → af4, getElem?_drop → am5, getElem?_eq_getElem → ac6, getElem?_eq_some_iff → ac1, getElem?_map → af7, getElem?_take → ao0, length_take → ao3, mem_of_getElem? → af3, range → aq5, replicate → al7
open Nat renaming add_zero → as3, le_refl → ai1, mul_le_mul_right → ao9, zero_add → ar4
open Option renaming bind_eq_some_iff → ab6, map_eq_some_iff → af1
open Option.some renaming injEq → ad0
open Prod.mk renaming injEq → ar1
namespace Hk
section
open Go
inductive Tok where
 | no | nil | own (id:Nat)
 deriving DecidableEq,Inhabited
inductive lC where
 | junk
 | bool (b:Bool)
 | int (k:IntKind) (n:Int)
 | str (s:List UInt8)
 | agg (cs:List lC)
 | tuple (vs:List lC)
 | slice (rows:List (List lC)) (tok:Tok)
 | pptr (cs:List lC)
 | ptr (id off:Nat)
 | nilptr
 | mslice (id off len sz:Nat)
 | vslice (id tot off len sz:Nat)
 | vptr (id tot off:Nat)
 | map (id:Nat)
 | nilmap
 | func (f:Nat) (first cap:List lC)
 | nilfunc
 | meth (n:String) (t:Nat)
 | iface (t:Nat) (v:lC)
 | niliface
 deriving Inhabited
inductive mC where
 | free
 | gone
 | cells (cs:List lC)
 | front (n sz:Nat) (t:Nat:=0)
 | vec (tot sz:Nat) (cs:List lC)
 | map (es:List (lC×lC))
 | tcells (t:Nat) (cs:List lC)
 deriving Inhabited
abbrev lD:=List mC
inductive Ex where
 | normal | ret | exit (id:Nat) | pan (v:lC)
 deriving Inhabited
inductive nB where
 | ret (v:lC) | pan (v:lC)
 deriving Inhabited
abbrev lN:=Nat→List lC→lD→Option (nB×lD)
abbrev R:=Ex×List lC×lD
inductive Yk where
 | indexByte
 deriving DecidableEq
inductive Yu where
 | copyCheck
 | bldString (e:Nat)
 | fn (g:List lC→Option lC)
structure RB where
 seq:List lC→lD→Option (List (List lC))
structure wC where
 glob:Nat→Option (List lC):=fun _=>none
 esc:Nat→Bool:=fun _=>false
 grow:Nat→Bool:=fun _=>false
 pure:Nat→Bool:=fun _=>false
 ext:Nat→Option Yk:=fun _=>none
 pan:Nat→Bool:=fun _=>false
 dfr:Nat→Bool:=fun _=>false
 srt:Nat→Bool:=fun _=>false
 srf:Nat→Option Nat:=fun _=>none
 vec:Nat→Bool:=fun _=>false
 frz:Nat→Bool:=fun _=>false
 vecT:Nat→Nat→Bool:=fun _ _=>false
 vmk:Nat→Bool:=fun _=>false
 jt:Nat→Bool:=fun _=>false
 sub:Nat→Bool:=fun _=>false
 out:Nat→Bool:=fun _=>false
 frr:Nat→Bool:=fun _=>false
 rb:Nat→Bool:=fun _=>false
 vlitT:Nat→Nat→Bool:=fun _ _=>false
 frl:Nat→Bool:=fun _=>false
 lkp:Nat→Bool:=fun _=>false
 tb:Nat→Bool:=fun _=>false
 tbt:Nat→Bool:=fun _=>false
 bld:Nat→Nat→Nat→Bool:=fun _ _ _=>false
 gsz:Nat→Option Nat:=fun _=>none
 prm:Nat→Option Yu:=fun _=>none
 rgf:Nat→Bool:=fun _=>false
 itr:Nat→Option RB:=fun _=>none
 vlit:Nat→Bool:=fun _=>false
 kp:Nat→Bool:=fun _=>false
 ck:Nat→Bool:=fun _=>false
def lC.cells:lC→List lC
 | .agg cs=>cs
 | v=>[v]
def Bh:Value→lC
 | .bool b=>.bool b
 | .int k n=>.int k n
 | .string s=>.str s.data.toList
 | .pointer none=>.nilptr
 | .slice none 0 0=>.slice [] .nil
 | .map none=>.nilmap
 | .nilFunc=>.nilfunc
 | .nilIface=>.niliface
 | _=>.junk
def ofConst:Value→lC
 | .agg cs=>.agg (cs.toList.map Bh)
 | .tuple cs=>match cs.toList with | []=>.tuple [] | _=>.junk
 | v=>Bh v
def pP (A:wC) (ρ:List lC):Operand→lC
 | .tmp t=>ρ.getD t .junk
 | .const v=>ofConst v
 | .global g=>match A.glob g with | some cs=>.pptr cs | none=>.junk
 | .func f=>.func f [] []
def lC.AN:lC→Option lC
 | .bool b=>some (.bool b)
 | .int k n=>some (.int k n)
 | .str s=>some (.str s)
 | .slice rows _=>some (.slice rows .no)
 | .pptr cs=>some (.pptr cs)
 | .nilptr=>some .nilptr
 | .nilmap=>some .nilmap
 | .func f [] []=>some (.func f [] [])
 | .nilfunc=>some .nilfunc
 | .niliface=>some .niliface
 | _=>none
def nP:List lC→Option (List lC)
 | []=>some []
 | v::r=>match v.AN,nP r with
  | some x,some y=>some (x::y)
  | _,_=>none
def lC.oC:lC→Bool
 | .junk=>true
 | _=>false
def lC.mE:lC→Bool
 | .junk | .agg _ | .tuple _=>false
 | _=>true
def rowsOf:Nat→Nat→List lC→List (List lC)
 | 0,_,_=>[]
 | n+1,sz,cs=>cs.take sz::rowsOf n sz (cs.drop sz)
def uA:lC→Option Nat
 | .ptr id _=>some id
 | .mslice id _ _ _=>some id
 | .vslice id _ _ _ _=>some id
 | .vptr id _ _=>some id
 | .map id=>some id
 | .slice _ (.own id)=>some id
 | _=>none
def lC.sY (m:Nat):lC→Bool
 | .agg _=>false
 | .tuple _=>false
 | .iface _ _=>false
 | .func _ first cap=>first.isEmpty&&cap.isEmpty
 | v=>match uA v with | some r=>decide (r<m) | none=>true
def lC.rU (m:Nat):lC→Bool
 | .agg cs=>cs.all (lC.sY m)
 | .iface _ (.agg cs)=>cs.all (lC.sY m)
 | .iface _ v=>v.sY m
 | .func _ first cap=>first.all (lC.sY m)&&cap.all (lC.sY m)
 | v=>v.sY m
def lC.nO (m:Nat) (h:lD):lC→lC
 | .slice rows (.own id)=>bif decide (id<m) then .slice rows (.own id) else .slice rows .no
 | .ptr id off=>bif decide (id<m) then .ptr id off else
   match h[id]? with
   | some (.cells cs)=>match nP (cs.drop off) with
    | some row=>.pptr row
    | none=>.junk
   | _=>.junk
 | .mslice id off len sz=>bif decide (id<m) then .mslice id off len sz else
   match h[id]? with
   | some (.cells cs)=>match nP ((cs.drop off).take (len*sz)) with
    | some row=>bif decide (off+len*sz≤cs.length) then .slice (rowsOf len sz row) .no else .junk
    | none=>.junk
   | _=>.junk
 | .vslice id tot off len sz=>bif decide (id<m) then .vslice id tot off len sz else
   match h[id]? with
   | some (.vec tot' _ cs)=>match nP ((cs.drop off).take (len*sz)) with
    | some row=>bif decide (tot=tot'∧off+len*sz≤cs.length) then .slice (rowsOf len sz row) .no else .junk
    | none=>.junk
   | _=>.junk
 | v=>bif v.rU m then v else .junk
def lC.pV (m:Nat) (h:lD):lC→lC
 | .agg cs=>.agg (cs.map (·.nO m h))
 | .tuple vs=>.tuple (vs.map fun v=>match v with | .agg cs=>.agg (cs.map (·.nO m h)) | v=>v.nO m h)
 | .iface t (.agg cs)=>.iface t (.agg (cs.map (·.nO m h)))
 | .iface t v=>.iface t (v.nO m h)
 | v=>v.nO m h
def mW (m:Nat) (h:lD):List lC→Option (List lC)
 | []=>some []
 | v::r=>bif (v.nO m h).mE then(match mW m h r with | some r'=>some (v.nO m h::r') | none=>none) else none
def pC (m:Nat) (h:lD):mC→Option mC
 | .cells cs=>(mW m h cs).map .cells
 | .vec tot sz cs=>(mW m h cs).map (.vec tot sz)
 | .tcells t cs=>(mW m h cs).map (.tcells t)
 | .map es=>bif es.all (fun e=>e.2.rU m) then some (.map es) else none
 | b=>some b
def oG (m:Nat) (h:lD):List mC→Option (List mC)
 | []=>some []
 | b::r=>match pC m h b,oG m h r with
  | some b',some r'=>some (b'::r')
  | _,_=>none
def oD (m:Nat) (h:lD):Option lD:=oG m h (h.take m)
def lC.oX:lC→lC
 | .slice rows _=>.slice rows .no
 | v=>v
def lC.lL:lC→lC
 | .agg cs=>.agg (cs.map lC.oX)
 | .tuple vs=>.tuple (vs.map fun v=>match v with | .agg cs=>.agg (cs.map lC.oX) | v=>v.oX)
 | v=>v.oX
def lZ (op:BinOp) (x y:lC):Option lC :=
 match x,y with
 | .int k a,.int k' b =>
  match op with
  | .shl=>if b<0 then none else some (.int k (k.wrap (a*2^(min b.toNat k.bits))))
  | .shr=>if b<0 then none else some (.int k (a.fdiv (2^(min b.toNat k.bits))))
  | _=>if k≠k' then none else
   match op with
   | .add=>some (.int k (k.wrap (a+b)))
   | .sub=>some (.int k (k.wrap (a-b)))
   | .mul=>some (.int k (k.wrap (a*b)))
   | .quo=>if b=0 then none else some (.int k (k.wrap (a.tdiv b)))
   | .rem=>if b=0 then none else some (.int k (a.tmod b))
   | .and=>some (.int k (k.wrap (BitVec.ofInt k.bits a &&& BitVec.ofInt k.bits b).toNat))
   | .or=>some (.int k (k.wrap (BitVec.ofInt k.bits a ||| BitVec.ofInt k.bits b).toNat))
   | .xor=>some (.int k (k.wrap (BitVec.ofInt k.bits a ^^^ BitVec.ofInt k.bits b).toNat))
   | .andNot=>some (.int k (k.wrap (BitVec.ofInt k.bits a &&& ~~~ BitVec.ofInt k.bits b).toNat))
   | .eql=>some (.bool (a == b))
   | .neq=>some (.bool (a != b))
   | .lss=>some (.bool (a<b))
   | .leq=>some (.bool (a≤b))
   | .gtr=>some (.bool (a > b))
   | .geq=>some (.bool (a≥b))
   | _=>none
 | .str a,.str b =>
  match op with
  | .add=>if a.length+b.length≤4611686018427387904 then some (.str (a++b)) else none
  | .eql=>some (.bool (a == b))
  | .neq=>some (.bool (!(a == b)))
  | .lss=>some (.bool (Op.bytesLess a b))
  | .leq=>some (.bool (Op.bytesLess a b || a == b))
  | .gtr=>some (.bool (!(Op.bytesLess a b || a == b)))
  | .geq=>some (.bool (!(Op.bytesLess a b)))
  | _=>none
 | _,_=>none
def M7 (op:BinOp) (x y:lC):Option lC :=
 match op,x,y with
 | .eql,.bool a,.bool b=>some (.bool (a == b))
 | .neq,.bool a,.bool b=>some (.bool (!(a == b)))
 | _,_,_=>none
def G5:lC→Option Bool
 | .nilptr=>some true
 | .ptr _ _=>some false
 | .vptr _ _ _=>some false
 | .pptr _=>some false
 | _=>none
def UW (op:BinOp) (x y:lC):Option lC :=
 match op,y with
 | .eql,.nilptr=>(G5 x).map .bool
 | .neq,.nilptr=>(G5 x).map fun b=>.bool (!b)
 | _,_=>none
inductive Kd where
 | b | i | s
 deriving DecidableEq
def xP:Kd→lC→lC→Option Bool
 | .i,.int k a,.int k' b=>if k=k' then some (a == b) else none
 | .b,.bool a,.bool b=>some (a == b)
 | .s,.str a,.str b=>some (a == b)
 | _,_,_=>none
def oH:List Kd→List lC→List lC→Option Bool
 | [],[],[]=>some true
 | k::ks,x::xs,y::ys=>match xP k x y,oH ks xs ys with
  | some a,some b=>some (a&&b)
  | _,_=>none
 | _,_,_=>none
def pK (ks:List Kd):lC→lC→Option Bool
 | .agg xs,.agg ys=>oH ks xs ys
 | _,_=>none
def xX (op:UnOp) (x:lC):Option lC :=
 match op,x with
 | .neg,.int k n=>some (.int k (k.wrap (0-n)))
 | .xor,.int k n=>some (.int k (k.wrap (BitVec.ofInt k.bits (if k.signed then -1 else k.max) ^^^ BitVec.ofInt k.bits n).toNat))
 | .not,.bool b=>some (.bool !b)
 | _,_=>none
def AW (k:IntKind):lC→Option lC
 | .int _ n=>some (.int k (k.wrap n))
 | _=>none
def mJ (c a b:lC):Option lC :=
 match c with
 | .bool g=>some (bif g then a else b)
 | _=>none
def apart (isAgg:Bool) (n:Nat) (cs:List lC) (off:Nat):Option lC :=
 bif isAgg then(if off+n≤cs.length then some (.agg ((cs.drop off).take n)) else none) else cs[off]?
def AX (isAgg:Bool) (n off:Nat):lC→Option lC
 | .agg cs=>apart isAgg n cs off
 | _=>none
def nI (i:Nat):lC→Option lC
 | .tuple vs=>vs[i]?
 | _=>none
def sS (x i:lC):Option lC :=
 match x,i with
 | .str s,.int _ n=>if 0≤n then(s[n.toNat]?).map fun b=>.int .u8 b.toNat else none
 | _,_=>none
def Er (isAgg:Bool) (len sz:Nat) (x i:lC):Option lC :=
 match x,i with
 | .agg cs,.int _ n=>if 0≤n∧n<len then apart isAgg sz cs (n.toNat*sz) else none
 | _,_=>none
def lU (sz:Nat) (x i:lC):Option lC :=
 match x,i with
 | .slice rows _,.int _ n =>
  if 0≤n then match rows[n.toNat]? with
   | some row=>if row.length=sz then some (.pptr row) else none
   | none=>none
  else none
 | .mslice id off len sz',.int _ n=>if 0≤n∧n<len∧sz'=sz then some (.ptr id (off+n.toNat*sz)) else none
 | .vslice id tot off len sz',.int _ n=>if 0≤n∧n<len∧sz'=sz then some (.vptr id tot (off+n.toNat*sz)) else none
 | _,_=>none
def w7 (len sz:Nat) (x i:lC):Option lC :=
 match x,i with
 | .ptr id off,.int _ n=>if 0≤n∧n<len then some (.ptr id (off+n.toNat*sz)) else none
 | .pptr cs,.int _ n=>if 0≤n∧n<len then some (.pptr (cs.drop (n.toNat*sz))) else none
 | _,_=>none
def lO (off:Nat):lC→Option lC
 | .ptr id o=>some (.ptr id (o+off))
 | .vptr id tot o=>some (.vptr id tot (o+off))
 | .pptr cs=>some (.pptr (cs.drop off))
 | _=>none
def pE (x:Option lC) (dflt:Nat):Option Nat :=
 match x with
 | none=>some dflt
 | some (.int _ n)=>if 0≤n then some n.toNat else none
 | _=>none
def rW (x:lC) (lo hi:Option lC):Option lC :=
 match x with
 | .str s=>match pE lo 0,pE hi s.length with
  | some l,some u=>if l≤u∧u≤s.length then some (.str ((s.drop l).take (u-l))) else none
  | _,_=>none
 | _=>none
def Ew (len sz:Nat) (x:lC) (lo hi:Option lC):Option lC :=
 match x,lo,hi with
 | .ptr id off,none,none=>if 0<len then some (.mslice id off len sz) else none
 | _,_,_=>none
def oI (sz:Nat) (x:lC) (lo hi:Option lC):Option lC :=
 match x with
 | .slice rows _=>match pE lo 0,pE hi rows.length with
  | some l,some u=>if l≤u∧u≤rows.length∧(rows.all fun r=>r.length == sz) then some (.slice ((rows.drop l).take (u-l)) .no) else none
  | _,_=>none
 | .mslice id off len sz'=>match pE lo 0,pE hi len with
  | some l,some u=>if l≤u∧u≤len∧sz'=sz then some (.mslice id (off+l*sz) (u-l) sz) else none
  | _,_=>none
 | .vslice id tot off len sz'=>match pE lo 0,pE hi len with
  | some l,some u=>if l≤u∧u≤len∧sz'=sz then(if l=0∨l<u then some (.vslice id tot (off+l*sz) (u-l) sz) else some (.slice [] .no)) else none
  | _,_=>none
 | _=>none
def F9:lC→Option lC
 | .str s=>some (.int .i64 s.length)
 | _=>none
def mP:lC→Option lC
 | .slice rows _=>some (.int .i64 rows.length)
 | .mslice _ _ len _=>some (.int .i64 len)
 | .vslice _ _ _ len _=>some (.int .i64 len)
 | _=>none
def Dj (x y:lC):Option lC :=
 match x,y with
 | .int k a,.int _ b=>some (.int k (if b > a then b else a))
 | _,_=>none
def Ck (x y:lC):Option lC :=
 match x,y with
 | .int k a,.int _ b=>some (.int k (if b<a then b else a))
 | _,_=>none
def Nl:lC→List lC→Option lC
 | x,[]=>some x
 | x,y::r=>(Ck x y).bind fun z=>Nl z r
def Nk:lC→List lC→Option lC
 | x,[]=>some x
 | x,y::r=>(Dj x y).bind fun z=>Nk z r
def nW (h:lD) (id:Nat):Option (List lC) :=
 match h[id]? with
 | some (.cells cs)=>some cs
 | _=>none
def nV (h:lD) (id tot:Nat):Option (Nat×List lC) :=
 match h[id]? with
 | some (.vec tot' sz cs)=>if tot'=tot then some (sz,cs) else none
 | _=>none
def lP (isAgg:Bool) (n:Nat) (h:lD):lC→Option lC
 | .pptr cs=>apart isAgg n cs 0
 | .ptr id off=>match nW h id with
  | some cs=>apart isAgg n cs off
  | none=>none
 | .vptr id tot off=>match nV h id tot with
  | some x=>apart isAgg n x.2 off
  | none=>none
 | _=>none
def putCells (cs:List lC) (off:Nat) (vs:List lC):List lC:=cs.take off++vs++cs.drop (off+vs.length)
def lC.isNil:lC→Bool
 | .slice [] .nil=>true
 | _=>false
def sX (h:lD) (o v:lC):lC:=bif v.isNil then(match o with
 | .slice [] (.own id)=>(match h[id]? with
  | some (.front 0 0)=>.slice [] (.own id)
  | _=>v)
 | _=>v) else v
def pM (h:lD):List lC→List lC→List lC
 | o::os,v::vs=>sX h o v::pM h os vs
 | _,vs=>vs
def lW (n:Nat) (h:lD) (p v:lC):Option lD :=
 match p with
 | .ptr id off=>match nW h id with
  | some cs =>
   let vs:=v.cells
   if vs.length=n∧off+n≤cs.length∧vs.all lC.mE then some (h.set id (.cells (putCells cs off (pM h (cs.drop off) vs)))) else none
  | none=>none
 | .vptr id tot off=>match nV h id tot with
  | some x =>
   let vs:=v.cells
   if vs.length=n∧off+n≤x.2.length∧vs.all lC.mE then some (h.set id (.vec tot x.1 (putCells x.2 off vs))) else none
  | none=>none
 | _=>none
def mM:Nat→List lC→List lC×lD
 | _,[]=>([],[])
 | id,.slice [] .nil::r=>let (a,b):=mM (id+1) r;(.slice [] (.own id)::a,.front 0 0::b)
 | id,v::r=>let (a,b):=mM id r;(v::a,b)
def nA (n:Nat) (h:lD) (v:lC):Option (lC×lD) :=
 let vs:=v.cells
 if vs.length=n∧vs.all lC.mE then
  let (cs,fs):=mM (h.length+1) vs
  some (.ptr h.length 0,h++(.cells cs::fs))
 else none
def G0 (isAgg:Bool) (n:Nat) (h:lD):lC→Option lC:=fun _=>none
def KP (n:Nat) (h:lD) (p v:lC):Option lD:=none
def Et (tb g:Bool) (n:Nat) (h:lD) (x:lC):Option lC:=bif tb then G0 g n h x else lP g n h x
def RN (tb:Bool) (n:Nat) (h:lD) (p v:lC):Option lD:=bif tb then KP n h p v else lW n h p v
def Nn (t n:Nat) (h:lD) (v:lC):Option (lC×lD):=none
def RL (tb:Bool) (t n:Nat) (h:lD) (v:lC):Option (lC×lD):=bif tb then Nn t n h v else nA n h v
def qS (sz:Nat) (h:lD):lC→Option (List (List lC))
 | .slice rows _=>if rows.all fun r=>r.length == sz then some rows else none
 | .mslice id off len sz'=>match nW h id with
  | some cs=>if sz'=sz∧off+len*sz≤cs.length then(match nP ((cs.drop off).take (len*sz)) with | some row=>some (rowsOf len sz row) | none=>none) else none
  | none=>none
 | .vslice id tot off len sz'=>match nV h id tot with
  | some x=>if sz'=sz∧off+len*sz≤x.2.length then(match nP ((x.2.drop off).take (len*sz)) with | some row=>some (rowsOf len sz row) | none=>none) else none
  | none=>none
 | _=>none
def U6 (sz:Nat) (h:lD):lC→Option (List (List lC))
 | .vslice id tot off len sz'=>match nV h id tot with
  | some x=>if sz'=sz∧off+len*sz≤x.2.length then some (rowsOf len sz ((x.2.drop off).take (len*sz))) else none
  | none=>none
 | _=>none
def w9 (sz:Nat) (h:lD) (x:lC):Option (List (List lC)):=match qS sz h x with
 | some r=>some r
 | none=>U6 sz h x
def nC (sz bytes:Nat) (h:lD) (s x:lC):Option (lC×lD) :=
 match s,qS sz h x with
 | .slice rows (.own id),some new =>
  match h[id]? with
  | some (.front n sz') =>
   if rows.length=n∧(sz'=sz∨n=0∧sz'=0)∧(n+new.length)*bytes≤140737488355328∧n+new.length≤140737488355328
   then(if new.length=0 then some (.slice rows (.own id),h) else some (.slice (rows++new) (.own id),h.set id (.front (n+new.length) sz))) else none
  | _=>none
 | .slice [] .nil,some new =>
  if new.length=0 then some (.slice [] .nil,h) else
  if new.length*bytes≤140737488355328∧new.length≤140737488355328 then some (.slice new (.own h.length),h++[.front new.length sz]) else none
 | _,_=>none
def vJ (t1 sz bytes:Nat) (h:lD) (s x:lC):Option (lC×lD):=none
def CD (t1 sz by_ zl:Nat) (h:lD) (s x:lC):Option (lC×lD):=none
def n_ (sz bytes:Nat) (h:lD) (s x:lC):Option (lC×lD) :=
 match s,w9 sz h x with
 | .slice [] (.own id),some new =>
  match h[id]? with
  | some (.front 0 0) =>
   if new.length*bytes≤140737488355328∧new.length≤140737488355328
   then(if new.length=0 then some (.slice [] (.own id),h) else some (.vslice id new.length 0 new.length sz,h.set id (.vec new.length sz new.flatten))) else none
  | _=>none
 | .slice [] .nil,some new =>
  if new.length=0 then some (.slice [] .nil,h) else
  if new.length*bytes≤140737488355328∧new.length≤140737488355328 then some (.vslice h.length new.length 0 new.length sz,h++[.vec new.length sz new.flatten]) else none
 | .vslice id tot 0 n sz',some new =>
  match nV h id tot with
  | some x =>
   if sz'=sz∧x.1=sz∧(n+new.length)*bytes≤140737488355328∧n+new.length≤140737488355328
   then(if new.length=0 then some (.vslice id tot 0 n sz,h)
    else if n+new.length≤tot then some (.vslice id tot 0 (n+new.length) sz,h.set id (.vec tot sz (putCells x.2 (n*sz) new.flatten)))
    else some (.vslice id (n+new.length) 0 (n+new.length) sz,h.set id (.vec (n+new.length) sz (x.2.take (n*sz)++new.flatten)))) else none
  | none=>none
 | _,_=>none
def sB (h:lD) (v:lC):Option (lC×lD) :=
 match v with
 | .vslice id tot off len sz=>match nV h id tot with
  | some x=>match nP ((x.2.drop off).take (len*sz)) with
   | some row=>if off+len*sz≤x.2.length then some (.slice (rowsOf len sz row) .no,h.set id .gone) else none
   | none=>none
  | none=>none
 | v=>some (v,h)
def AZ:lD→List lC→Option (List lC×lD)
 | h,[]=>some ([],h)
 | h,c::r=>(sB h c).bind fun y=>(AZ y.2 r).bind fun z=>some (y.1::z.1,z.2)
def GV (h:lD) (v:lC):Option (lC×lD) :=
 match v with
 | .agg cs=>(AZ h cs).bind fun z=>some (.agg z.1,z.2)
 | v=>some (v,h)
def CF (sz:Nat) (zero:List lC) (h:lD) (x:lC):Option lD :=
 match x with
 | .slice [] _=>some h
 | .vslice id tot off len sz'=>if len=0 then some h else match nV h id tot with
  | some x=>if sz'=sz∧zero.length=sz∧zero.all lC.mE∧off+len*sz≤x.2.length then some (h.set id (.vec tot x.1 (putCells x.2 off (al7 len zero).flatten))) else none
  | none=>none
 | _=>none
def mD (zero:List lC) (places:List (Nat×Nat)) (parts:List (Nat×lC)):Option lC :=
 match parts with
 | []=>some (.agg zero)
 | (i,v)::rest=>match places[i]? with
  | some (off,n)=>if v.oC=false∧v.cells.length=n∧off+n≤zero.length then mD (putCells zero off v.cells) places rest else none
  | none=>none
def rE (len sz:Nat) (zero:List lC) (parts:List (Nat×lC)):Option (List (List lC)) :=
 match mD (al7 len zero).flatten ((aq5 len).map fun i=>(i*sz,sz)) parts with
 | some (.agg cs)=>match nP cs with
  | some row=>if zero.length=sz∧cs.all lC.mE then some (rowsOf len sz row) else none
  | none=>none
 | _=>none
def lR (len sz:Nat) (zero:List lC) (parts:List (Nat×lC)) (h:lD):Option (lC×lD) :=
 match rE len sz zero parts with
 | some rows=>some (.slice rows (.own h.length),h++[.front len sz])
 | none=>none
def Dc (len sz:Nat) (zero:List lC) (parts:List (Nat×lC)) (h:lD):Option (lC×lD) :=
 match mD (al7 len zero).flatten ((aq5 len).map fun i=>(i*sz,sz)) parts with
 | some (.agg cs)=>if zero.length=sz∧cs.all lC.mE then some (.vslice h.length len 0 len sz,h++[.vec len sz cs]) else none
 | _=>none
def rL (len sz:Nat) (zero:List lC) (parts:List (Nat×lC)) (h:lD):Option (lC×lD) :=
 match rE len sz zero parts with
 | some rows=>some (.vslice h.length len 0 len sz,h++[.vec len sz rows.flatten])
 | none=>Dc len sz zero parts h
def pZ (id len sz:Nat) (zero:List lC) (parts:List (Nat×lC)) (h:lD):Option (lC×lD) :=
 match h[id]?,rE len sz zero parts with
 | some .free,some rows=>some (.slice rows (.own id),h.set id (.front len sz))
 | _,_=>none
def qM (sz bytes:Nat) (zero:List lC) (len:lC) (h:lD):Option (lC×lD) :=
 match len with
 | .int _ n=>if 0≤n∧n.toNat*bytes≤140737488355328∧n≤140737488355328
   then some (.mslice h.length 0 n.toNat sz,h++[.cells (al7 n.toNat zero).flatten]) else none
 | _=>none
def qI (sz bytes:Nat) (zero:List lC) (len:lC) (h:lD):Option (lC×lD) :=
 match len with
 | .int _ n=>if 0≤n∧n.toNat*bytes≤140737488355328∧n≤140737488355328
   then some (.vslice h.length n.toNat 0 n.toNat sz,h++[.vec n.toNat sz (al7 n.toNat zero).flatten]) else none
 | _=>none
def O8 (h:lD) (d s:lC):Option (lC×lD) :=
 match d,s with
 | .vslice id tot off len 1,.str bs=>match nV h id tot with
  | some x=>if off+len≤x.2.length∧x.1=1 then some (.int .i64 (min bs.length len:Nat),h.set id (.vec tot 1 (putCells x.2 off ((bs.take len).map fun b=>.int .u8 b.toNat)))) else none
  | none=>none
 | _,_=>none
def bytesOf:List (List lC)→Option (List UInt8)
 | []=>some []
 | [.int .u8 n]::r=>match bytesOf r with
  | some bs=>some (UInt8.ofNat n.toNat::bs)
  | none=>none
 | _=>none
def tT (x:lC):Option lC :=
 match x with
 | .slice rows _=>(bytesOf rows).map .str
 | _=>none
def BP (h:lD) (x:lC):Option lC :=
 match x with
 | .vslice id tot off len sz=>match qS 1 h (.vslice id tot off len sz) with
  | some rows=>(bytesOf rows).map .str
  | none=>none
 | .mslice id off len sz=>match qS 1 h (.mslice id off len sz) with
  | some rows=>(bytesOf rows).map .str
  | none=>none
 | x=>tT x
def uU:List UInt8→UInt8→Int
 | [],_=>-1
 | b::l,c=>if b == c then 0 else if uU l c == -1 then -1 else uU l c+1
def aoS:Yk→List lC→Option lC
 | .indexByte,[.str s,.int .u8 c]=>some (.int .i64 (uU s (UInt8.ofNat c.toNat)))
 | _,_=>none
def pL:TypeDesc→lC→Bool
 | .int k,.int k' _=>k == k'
 | .string,.str _=>true
 | .bool,.bool _=>true
 | _,_=>false
def CH:lC→Bool
 | .int _ _ | .str _ | .bool _=>true
 | _=>false
def Ab (zero:lC) (ok:Bool) (h:lD) (m k:lC):Option lC:=none
def Di (h:lD) (m k v:lC):Option lD:=none
def Dh (h:lD) (m k:lC):Option lD:=none
def Ep (h:lD) (m:lC):Option lD:=none
def N8 (bld:Nat→Nat→Nat→Bool) (k:Yu) (args:List lC) (h:lD):Option (nB×lD) :=
 match k with
 | .fn g=>(g args).map fun v=>(.ret v,h)
 | _=>none
def vZ (rows:List (List lC)) (x:Int):Option Int :=
 if 0≤x then match rows[x.toNat]? with
  | some (.int .i64 a::_)=>some a
  | _=>none
 else none
def qJ (key:Int→Int) (x y:Int):Bool:=decide (key x<key y) || (decide (key x=key y)&&decide (x≤y))
def qY (le:Int→Int→Bool) (x:Int):List Int→List Int
 | []=>[x]
 | y::r=>bif le x y then x::y::r else y::qY le x r
def zT (le:Int→Int→Bool):List Int→List Int
 | []=>[]
 | x::r=>qY le x (zT le r)
def Fk:List lC→Option (List Int)
 | []=>some []
 | .int .i64 n::r=>(Fk r).map (n::·)
 | _::_=>none
def FL (g:Nat) (args:List lC) (h:lD):Option (nB×lD) :=
 match args with
 | [.slice [] _,.func g' [] _]=>if g'=g then some (.ret (.tuple []),h) else none
 | [.vslice id tot 0 n 1,.func g' [] [.ptr pid po]] =>
  match nV h id tot,h[pid]? with
  | some x,some (.cells cs)=>match cs[po]?,Fk (x.2.take n) with
   | some (.slice rows _),some xs =>
    if g'=g∧pid≠id∧x.1=1∧0<n∧n≤x.2.length∧n≤1048576∧(rows.all fun r=>r.length == 2)=true∧(xs.all fun x=>(vZ rows x).isSome)=true
    then some (.ret (.tuple []),h.set id (.vec tot 1 (putCells x.2 0 ((zT (qJ fun x=>(vZ rows x).getD 0) xs).map (.int .i64))))) else none
   | _,_=>none
  | _,_=>none
 | _=>none
end
section
noncomputable section
open Go
def yV (t:Nat):Nat:=1 <<< t
def W0 (o:Oper):Nat:=o.op.operands.toList.foldl (fun m x=>match x with | .tmp t=>m ||| yV t | _=>m) 0
def afV (o:Oper):Nat:=match o.dst with | some d=>yV d | none=>0
def aeA (full:Nat):List Oper→Nat×Nat→Nat×Nat
 | [],a=>a
 | o::r,(u,d)=>aeA full r (u ||| (W0 o &&& (full ^^^ d)),d ||| afV o)
def Dw (id:Nat):Code→Bool
 | .exit j=>j == id
 | .seq a b | .cond _ a b=>Dw id a || Dw id b
 | .block _ c | .loop c | .scope c=>Dw id c
 | _=>false
def leaves:List Nat→Code→Bool
 | ids,.exit j=>!(ids.contains j)
 | ids,.seq a b | ids,.cond _ a b=>leaves ids a || leaves ids b
 | ids,.block id c=>leaves (id::ids) c
 | ids,.loop c=>leaves ids c
 | ids,.scope c=>leaves ids c
 | _,.skip | _,.region _ _ _ | _,.label _=>false
 | _,_=>true
def WY (o:Oper):Bool:=match o.op with | .panic _=>true | _=>false
def tU:Code→Bool
 | .skip=>true
 | .region _ ops _=>!(ops.toList.any WY)
 | .seq a b=>tU a&&tU b
 | .cond _ a b=>tU a || tU b
 | .block id c=>tU c || Dw id c
 | .scope c=>tU c
 | .label _=>true
 | _=>false
def yT (id:Nat):Code→Nat
 | .exit j=>bif j == id then 1 else 0
 | .seq a b=>yT id a+yT id b
 | .cond _ a b=>bif tU a&&tU b then(bif leaves [] a || leaves [] b then 1 else 0) else yT id a+yT id b
 | .block j c=>bif decide (2≤yT j c+bif tU c then 1 else 0) then 1 else yT id c
 | .loop _=>1
 | .scope c=>yT id c
 | _=>0
def ud (full:Nat):Code→Nat×Nat
 | .skip=>(0,0)
 | .region _ ops _=>aeA full ops.toList (0,0)
 | .seq a b=>let (u,d):=ud full a;let (u',d'):=ud full b;(u ||| (u' &&& (full ^^^ d)),d ||| d')
 | .cond c a b=>let (u,d):=ud full a;let (u',d'):=ud full b
  ((match c with | .tmp t=>yV t | _=>0) ||| u ||| u',(bif tU a then d else full) &&& (bif tU b then d' else full))
 | .block id c=>let (u,d):=ud full c;(u,bif Dw id c then 0 else d)
 | .loop c=>((ud full c).1,full)
 | .scope c=>ud full c
 | .label _=>(0,0)
 | .rangeFunc g _ a b=>((match g with | .tmp t=>yV t | _=>0) ||| (ud full a).1 ||| (ud full b).1,0)
 | _=>(0,full)
def ue (full:Nat) (c:Code):Nat:=(ud full c).1
def s_ (L:Nat):Nat→List lC→List lC
 | _,[]=>[]
 | i,v::r=>bif L.testBit i then v::s_ L (i+1) r else s_ L (i+1) r
def pack (L:Nat) (ρ:List lC):List lC:=s_ L 0 ρ
def unpackFrom (L:Nat) (x:List lC):Nat→Nat→Nat→List lC
 | 0,_,_=>[]
 | n+1,i,j=>bif L.testBit i then x.getD j .junk::unpackFrom L x n (i+1) (j+1) else .junk::unpackFrom L x n (i+1) j
def unpack (n L:Nat) (x:List lC):List lC:=unpackFrom L x n 0 0
def Ex.mO (e:Ex) (kn:Option R) (ke:Ex→Option R):Option R :=
 match e with
 | .normal=>kn
 | e=>ke e
def Ex.qZ (e:Ex) (kn:Option R):Option R :=
 match e with
 | .normal=>kn
 | _=>none
def Ex.inBlock (id:Nat) (e:Ex) (kn:Option R) (ke:Ex→Option R):Option R :=
 match e with
 | .normal=>kn
 | .exit j=>bif j == id then kn else ke (.exit j)
 | e=>ke e
def lY (x:Option (nB×lD)) (kv kp:lC→lD→Option R):Option R :=
 x.bind fun r=>match r.1 with
  | .ret v=>kv v r.2
  | .pan v=>kp v r.2
def lQ (x:Option (lC×lD)) (k:lC→lD→Option R):Option R:=x.bind fun r=>k r.1 r.2
def lS (v:lC) (t e:Option R):Option R :=
 match v with
 | .bool b=>bif b then t else e
 | _=>none
def qE (P:Program) (t:TypeId):Option Bool :=
 match P.underlying t with
 | some (.struct _) | some (.array _ _)=>some true
 | some _=>some false
 | none=>none
def nQ (P:Program) (t:TypeId):Option Nat:=(P.info? t).map (·.size)
def tM (P:Program) (t:TypeId):Option Nat:=(P.info? t).map (·.bytes)
def pT (P:Program) (t:TypeId):Option lC:=(P.info? t).bind fun i=>i.zero.map ofConst
def yZ (P:Program) (eqT:TypeId→Option (List Kd)):List Field→Nat→Option (List Kd)
 | [],_=>some []
 | f::r,off=>bif f.name == "_" || f.offset != off then none else match eqT f.type with
  | some ks=>bif nQ P f.type == some ks.length&&ks.length != 0 then match yZ P eqT r (off+ks.length) with
    | some l=>some (ks++l)
    | none=>none
   else none
  | none=>none
def uF (P:Program):Nat→TypeId→Option (List Kd)
 | 0,_=>none
 | d+1,t=>match P.underlying t with
  | some .bool=>some [.b]
  | some (.int _)=>some [.i]
  | some .string=>some [.s]
  | some (.struct fs)=>bif P.stoodInHeld t then none else yZ P (uF P d) fs.toList 0
  | _=>none
def Dp (P:Program) (t:TypeId):Option (List Kd) :=
 match uF P 12 t with
 | some ks=>bif P.eqGuardType P.depth t then none else some ks
 | none=>none
def zJ:Operand→Bool
 | .const (.slice none 0 0)=>true
 | _=>false
def o8 (o:Oper):Bool :=
 match o.op with
 | .alloc _ | .box .. | .buildSlice .. | .makeSlice .. | .makeMap .. | .store .. | .mapUpdate .. | .insert .. | .panic _=>true
 | .assign x=>zJ x
 | .call c=>match c.callee with
  | .builtin .len | .builtin .cap | .builtin .min | .builtin .max=>false
  | _=>true
 | _=>false
def sM (o:Oper):Option Operand :=
 match o.op with
 | .load _ a=>some a
 | .lookup _ m _ _=>some m
 | _=>none
def Hb:List Oper→List Nat→List Nat
 | [],acc=>acc
 | o::r,acc=>Hb r (acc++[o.after.toList.foldl (fun m e=>bif Region.binds .any e then m ||| yV e.on ||| acc.getD e.on 0 else m) 0])
def I8 (ops:List Oper):List Nat:=Hb ops []
def abU (a b:Nat):Bool:=(a &&& b) == a
def Ma (ok:Nat→Bool) (cl:List Nat) (done:Nat):List Nat→Option Nat
 | []=>none
 | i::r=>bif !(done.testBit i)&&abU (cl.getD i 0) done&&ok i then some i else Ma ok cl done r
structure Item where
 i:Nat
 o:Oper
 locks:List Nat
 rsv:Option Nat:=none
 hid:Bool:=false
def qU (o:Oper):Bool:=o.guard.isNone&&match o.op with | .alloc _ | .box .. | .buildSlice ..=>true | _=>false
def uG (o:Oper):Bool:=o.guard.isNone&&match o.op with | .call c=>(match c.callee with | .value _=>true | _=>false) | _=>false
def aeB (cl:List Nat) (i j:Nat):Bool:=(i != j)&&!((cl.getD i 0).testBit j)&&!((cl.getD j 0).testBit i)
def aaJ (f:Oper→Bool) (ops:List Oper) (i:Nat):Bool:=match ops[i]? with | some o=>f o | none=>false
def Ht (ops:List Oper) (cl:List Nat):List Nat :=
 (aq5 ops.length).filter fun i=>aaJ qU ops i&&(aq5 ops.length).any fun j=>aaJ o8 ops j&&aeB cl i j
def Gm:List Nat→Nat→Nat→Option Nat
 | [],_,_=>none
 | a::r,i,k=>bif a == i then some k else Gm r i (k+1)
def zC (ops:List Oper) (cl fl:List Nat):List Nat→List Nat→List Item
 | [],_=>[]
 | i::r,before=>match ops[i]? with
  | some o =>
   {i,o,locks:=bif o8 o then before.filter (fun p=>!((cl.getD i 0).testBit p)&&match ops[p]? with | some q=>(sM q).isSome | none=>false) else [],
    rsv:=Gm fl i 0,hid:=uG o&&fl.any (aeB cl i) } ::
    zC ops cl fl r (before++[i])
  | none=>[]
def uZ (o:Oper):List Tmp:=o.op.operands.toList.filterMap fun x=>match x with | .tmp t=>some t | _=>none
def af5 (ops:List Oper) (o:Oper):Option Tmp:=match o.guard with
 | some (j,_)=>(ops[j]?).bind (·.dst)
 | none=>none
def yN (ops:List Oper) (o:Oper):List Tmp:=uZ o++(af5 ops o).toList
def WU (d:Option Tmp) (ts:List Tmp):Bool:=match d with
 | some d=>!(ts.contains d)
 | none=>true
def KO (ops:List Oper) (x y:Oper):Bool :=
 WU x.dst (yN ops y)&&WU y.dst (yN ops x)&&WU x.dst y.dst.toList
def indep (ops:List Oper) (p it:Item):Bool :=
 KO ops p.o it.o&&match p.rsv,it.rsv with
 | some a,some b=>a != b
 | some _,none=>bif it.hid then true else !(o8 it.o)&&(sM it.o).isNone
 | none,some _=>bif p.hid then p.locks.isEmpty else !(o8 p.o)&&p.locks.isEmpty
 | none,none=>bif p.hid then p.locks.isEmpty&&(!it.hid&&(!(o8 it.o)&&(sM it.o).isNone))
   else !(o8 p.o)&&p.locks.isEmpty&&(!((sM p.o).isSome) || !(o8 it.o) || it.locks.contains p.i)
def HR (ops:List Oper) (cl:List Nat) (p it:Item):Bool :=
 (p.i != it.i)&&!((cl.getD p.i 0).testBit it.i)&&((cl.getD it.i 0).testBit p.i || indep ops p it)
def Am (ops:List Oper) (cl:List Nat):List Item→Bool
 | []=>true
 | p::r=>r.all (HR ops cl p)&&Am ops cl r
def KT (ops:List Oper):Bool :=
 (ops.zipIdx).all fun(o,i)=>o.after.toList.all fun e=>!(Region.binds .any e) || decide (e.on<i)
def Gl (ops:List Oper) (cl fl:List Nat) (n:Nat):Nat→Nat→List Nat
 | 0,_=>[]
 | fuel+1,done =>
  let light (i:Nat):Bool:=match ops[i]? with | some o=>!(o8 o) | none=>false
  match Ma light cl done (aq5 n) with
  | some i=>i::Gl ops cl fl n fuel (done ||| yV i)
  | none=>match Ma (fun i=>fl.contains i) cl done (aq5 n) with
   | some i=>i::Gl ops cl fl n fuel (done ||| yV i)
   | none=>match Ma (fun _=>true) cl done (aq5 n) with
    | some i=>i::Gl ops cl fl n fuel (done ||| yV i)
    | none=>[]
def Si (ops:List Oper):List Nat:=Gl ops (I8 ops) (Ht ops (I8 ops)) ops.length ops.length 0
def Ad (ops:List Oper):Option (List Item) :=
 let items:=zC ops (I8 ops) (Ht ops (I8 ops)) (Si ops) []
 bif Am ops (I8 ops) items&&KT ops&&(items.length == ops.length)&&(aq5 ops.length).all (fun i=>items.any fun it=>it.i == i) then some items else none
def pH (ops:List Oper):List Item:=ops.zipIdx.map fun(o,i)=>{ i,o,locks:=[] }
def vR:lC→Option Nat
 | .ptr id _=>some id
 | .vptr id _ _=>some id
 | .map id=>some id
 | _=>none
def mI (locks:List Nat) (seen:List lC):List Nat:=locks.filterMap fun j=>vR (seen.getD j .junk)
def tV (h:lD) (id:Nat):lD :=
 match h[id]? with
 | some (.cells _) | some (.map _) | some (.vec _ _ _) | some (.tcells _ _)=>h.set id .gone
 | _=>h
def q8 (h:lD) (r:lD) (id:Nat):lD :=
 match h[id]? with
 | some (.cells cs)=>r.set id (.cells cs)
 | some (.vec tot sz cs)=>r.set id (.vec tot sz cs)
 | some (.map es)=>r.set id (.map es)
 | some (.tcells t cs)=>r.set id (.tcells t cs)
 | _=>r
def r_ (ids:List Nat) (h:lD):lD:=ids.foldl tV h
def nL (ids:List Nat) (h h':lD):lD:=ids.foldl (q8 h) h'
def xV (t:Nat) (z:lC):lC→Option lC
 | .iface t' w=>some (bif t' == t then .tuple [w,.bool true] else .tuple [z,.bool false])
 | .niliface=>some (.tuple [z,.bool false])
 | _=>none
def wC.Rp (A:wC) (f t:Nat):Bool:=A.vec f || A.vecT f t
def wC.II (A:wC) (f t:Nat):Bool:=A.vlit f || A.vlitT f t
structure Cx where
 P:Program
 A:wC
 K:lN
 lp:(List lC×lD→Option R)→List lC×lD→Option R
 n:Nat
 full:Nat
 pan:Bool:=false
 vec:Nat→Bool:=fun _=>false
 frz:Bool:=false
 vlit:Nat→Bool:=fun _=>false
 vmk:Bool:=false
 jt:Bool:=false
 lkp:Bool:=false
 rb:Bool:=false
 frl:Bool:=false
 tb:Bool:=false
 ck:Bool:=false
def qO:lC→Option (Nat×List lC×List lC)
 | .func f first cap=>some (f,first,cap)
 | _=>none
def yU (P:Program) (t:TypeId) (name:String):Option Nat :=
 match P.info? t with
 | some i=>match i.methods.find? (·.name == name) with
  | some m=>bif m.path.toList.isEmpty then(match m.func with
   | some (f,false)=>match P.underlying t with
    | some (.struct _)=>some f
    | _=>none
   | _=>none) else none
  | none=>none
 | none=>none
def wE (P:Program) (name:String):lC→Option (Nat×lC)
 | .iface t w=>(yU P t name).map fun f=>(f,w)
 | _=>none
def Dk (P:Program):lC→Option lC
 | .meth n t=>(yU P t n).map fun _=>.meth n t
 | _=>none
def l_:lC→Option lC
 | .ptr id off=>some (.ptr id off)
 | .vptr id tot off=>some (.vptr id tot off)
 | .pptr cs=>some (.pptr cs)
 | .func f a b=>some (.func f a b)
 | _=>none
def vT (id n:Nat) (h:lD) (v:lC):Option (lC×lD) :=
 let vs:=v.cells
 match h[id]? with
 | some .free=>if vs.length=n∧vs.all lC.mE then some (.ptr id 0,h.set id (.cells vs)) else none
 | _=>none
def oT (A:wC) (f:Nat) (vs:List lC):List lC:=bif A.grow f then vs else vs.map lC.lL
def KN (x:lC) (h:lD) (kp:lC→lD→Option R):Option R :=
 match x with
 | .iface t w=>kp (.iface t w) h
 | _=>none
def Fv (P:Program) (t:TypeId):Option TypeId :=
 match P.underlying t with
 | some (.slice e)=>some e
 | _=>none
def af0 (k:Yk) (args:List lC) (h:lD):Option (nB×lD):=(aoS k args).map fun v=>(.ret v,h)
def qQ (A:wC) (K:lN) (f:Nat) (args:List lC) (h:lD):Option (nB×lD) :=
 match A.ext f with
 | some k=>af0 k args h
 | none=>K f args h
def QU:Operand→Operand→Bool
 | .tmp a,.tmp b=>a == b
 | .const (.int _ a),.const (.int _ b)=>a == b
 | _,_=>false
def p_ (cx:Cx) (b:Builtin) (argTypes:List TypeId) (args:List lC) (h:lD) (kv:lC→lD→Option R):Option R :=
 match b,argTypes,args with
 | .len,[t],[x]=>match cx.P.underlying t with
  | some (.array n _)=>kv (.int .i64 n) h
  | some .string=>(F9 x).bind fun w=>kv w h
  | some (.slice _)=>(mP x).bind fun w=>kv w h
  | _=>none
 | .min,_,[x,y]=>(Ck x y).bind fun w=>kv w h
 | .max,_,[x,y]=>(Dj x y).bind fun w=>kv w h
 | .min,_,x::y::z::r=>(Nl x (y::z::r)).bind fun w=>kv w h
 | .max,_,x::y::z::r=>(Nk x (y::z::r)).bind fun w=>kv w h
 | .append,[t,t'],[s,x]=>match Fv cx.P t with
  | some e=>bif t != t' then(match cx.P.underlying t',nQ cx.P e,tM cx.P e,pT cx.P e with
   | some .string,some sz,some by_,some z=>bif z.oC then none else lQ (CD (e+1) sz by_ z.cells.length h s x) kv
   | _,_,_,_=>none) else match nQ cx.P e,tM cx.P e,pT cx.P e with
   | some sz,some by_,some z=>bif sz == 0 || z.oC || z.cells.length != sz then none else lQ (bif cx.vec t then n_ sz by_ h s x else bif cx.tb then vJ (e+1) sz by_ h s x else nC sz by_ h s x) kv
   | _,_,_=>none
  | none=>none
 | .copy,[t,t'],[d,x]=>match Fv cx.P t,cx.P.underlying t' with
  | some e,some .string=>match nQ cx.P e,pT cx.P e with
   | some 1,some (.int .u8 _)=>lQ (O8 h d x) kv
   | _,_=>none
  | _,_=>none
 | .delete,[t,_],[m,k]=>match cx.P.underlying t with
  | some (.map kt _)=>match cx.P.underlying kt with
   | some d=>bif pL d k then(Dh h m k).bind fun h'=>kv (.tuple []) h' else none
   | none=>none
  | _=>none
 | .clear,[t],[x]=>match cx.P.underlying t with
  | some (.slice e)=>match nQ cx.P e,pT cx.P e with
   | some sz,some z=>bif z.oC then none else(CF sz z.cells h x).bind fun h'=>kv (.tuple []) h'
   | _,_=>none
  | some (.map _ _)=>(Ep h x).bind fun h'=>kv (.tuple []) h'
  | _=>none
 | _,_,_=>none
def nD (cx:Cx) (o:Oper) (rsv:Option Nat) (v:Operand→lC) (h:lD) (kv:lC→lD→Option R) (kp:lC→lD→Option R):Option R :=
 match o.op with
 | .move x=>kv (v x) h
 | .assign x=>bif zJ x then kv (.slice [] (.own h.length)) (h++[.front 0 0]) else kv (v x) h
 | .pick c a b=>(mJ (v c) (v a) (v b)).bind fun w=>kv w h
 | .alloc t=>match nQ cx.P t,pT cx.P t with
  | some n,some z=>match rsv with
   | none=>lQ (RL (cx.A.tbt t) t n h z) kv
   | some id=>lQ (vT id n h z) kv
  | _,_=>none
 | .box t x=>match nQ cx.P t with
  | some n=>match rsv with
   | none=>lQ (RL (cx.A.tbt t) t n h (v x)) kv
   | some id=>lQ (vT id n h (v x)) kv
  | none=>none
 | .build t parts=>match pT cx.P t,cx.P.underlying t with
  | some z,some (.struct fs) =>
   match fs.toList.mapM (fun f=>(nQ cx.P f.type).map fun n=>(f.offset,n)) with
   | some places=>bif z.oC then none else(mD z.cells places (parts.toList.map fun p=>(p.1,v p.2))).bind fun w=>kv w h
   | none=>none
  | some z,some (.array len e)=>match nQ cx.P e with
   | some n=>bif z.oC then none else(mD z.cells ((aq5 len).map fun i=>(i*n,n)) (parts.toList.map fun p=>(p.1,v p.2))).bind fun w=>kv w h
   | none=>none
  | _,_=>none
 | .buildSlice t len parts=>match Fv cx.P t with
  | some e=>match nQ cx.P e,pT cx.P e with
   | some n,some z=>bif n == 0 || z.oC || decide (len*n > 16777216) then none else match rsv with
    | none=>lQ (bif cx.vlit t then rL len n z.cells (parts.toList.map fun p=>(p.1,v p.2)) h else lR len n z.cells (parts.toList.map fun p=>(p.1,v p.2)) h) kv
    | some id=>lQ (pZ id len n z.cells (parts.toList.map fun p=>(p.1,v p.2)) h) kv
   | _,_=>none
  | none=>none
 | .load t a=>match qE cx.P t,nQ cx.P t with
  | some g,some n=>(Et cx.tb g n h (v a)).bind fun w=>bif cx.rb&&cx.frl then lQ (GV h w) kv else kv w h
  | _,_=>none
 | .store t a x=>match nQ cx.P t with
  | some n=>bif cx.frz then(sB h (v x)).bind fun y=>(lW n y.2 (v a) y.1).bind fun h'=>kv (.tuple []) h' else(RN cx.tb n h (v a) (v x)).bind fun h'=>kv (.tuple []) h'
  | none=>none
 | .nilCheck x=>match cx.P.underlying o.type with
  | some (.func ..)=>(Dk cx.P (v x)).bind fun w=>kv w h
  | _=>(l_ (v x)).bind fun w=>kv w h
 | .binOp op t x y _=>match op,cx.P.underlying t with
  | .eql,some (.struct _)=>match Dp cx.P t with
   | some ks=>(pK ks (v x) (v y)).bind fun b=>kv (.bool b) h
   | none=>none
  | .neq,some (.struct _)=>match Dp cx.P t with
   | some ks=>(pK ks (v x) (v y)).bind fun b=>kv (.bool (!b)) h
   | none=>none
  | _,some .bool=>(M7 op (v x) (v y)).bind fun w=>kv w h
  | _,some (.pointer _)=>(UW op (v x) (v y)).bind fun w=>kv w h
  | _,some (.int _) | _,some .string=>(lZ op (v x) (v y)).bind fun w=>kv w h
  | _,_=>none
 | .unOp op _ x=>(xX op (v x)).bind fun w=>kv w h
 | .convert s d x=>match cx.P.underlying s,cx.P.underlying d with
  | some (.int _),some (.int k)=>(AW k (v x)).bind fun w=>kv w h
  | some (.slice e),some .string=>match cx.P.underlying e with
   | some (.int .u8)=>(bif cx.rb then BP h (v x) else tT (v x)).bind fun w=>kv w h
   | _=>none
  | _,_=>none
 | .makeMap _ none=>kv (.map h.length) (h++[.map []])
 | .makeSlice t l c=>match Fv cx.P t with
  | some e=>match nQ cx.P e,tM cx.P e,pT cx.P e with
   | some n,some by_,some z=>bif n == 0 || z.oC || z.cells.length != n || !(z.cells.all lC.mE) || !(QU l c) then none else lQ (bif cx.vmk then qI n by_ z.cells (v l) h else qM n by_ z.cells (v l) h) kv
   | _,_,_=>none
  | none=>none
 | .lookup t m k ok=>match cx.P.underlying t with
  | some (.map kt e)=>match cx.P.underlying kt,pT cx.P e with
   | some d,some z=>bif pL d (v k) then(Ab z ok h (v m) (v k)).bind fun w=>kv w h else none
   | _,_=>none
  | _=>none
 | .mapUpdate t m k x=>match cx.P.underlying t with
  | some (.map kt _)=>match cx.P.underlying kt with
   | some d=>bif pL d (v k) then(Di h (v m) (v k) (v x)).bind fun h'=>kv (.tuple []) h' else none
   | none=>none
  | _=>none
 | .makeInterface t x=>match cx.P.underlying t with
  | some (.interface _)=>none
  | some _=>kv (.iface t (v x)) h
  | none=>none
 | .makeFunc (.func f) first cap=>kv (.func f (first.toList.map v) (cap.toList.map v)) h
 | .makeFunc (.method n) first _=>match first.toList with
  | [x]=>match v x with
   | .iface t _=>kv (.meth n t) h
   | _=>none
  | _=>none
 | .slice t x lo hi none=>match cx.P.underlying t with
  | some .string=>(rW (v x) (lo.map v) (hi.map v)).bind fun w=>kv w h
  | some (.slice e)=>match nQ cx.P e with
   | some n=>(oI n (v x) (lo.map v) (hi.map v)).bind fun w=>kv w h
   | none=>none
  | some (.array len e)=>match nQ cx.P e with
   | some n=>(Ew len n (v x) (lo.map v) (hi.map v)).bind fun w=>kv w h
   | none=>none
  | _=>none
 | .fieldAddr s x f=>match cx.P.underlying s with
  | some (.struct fs)=>match fs[f]? with
   | some fd=>match nQ cx.P fd.type with
    | some (_+1)=>(lO fd.offset (v x)).bind fun w=>kv w h
    | _=>none
   | none=>none
  | _=>none
 | .field t x f=>match cx.P.underlying t with
  | some (.struct fs)=>match fs[f]? with
   | some fd=>match qE cx.P fd.type,nQ cx.P fd.type with
    | some g,some n=>(AX g n fd.offset (v x)).bind fun w=>kv w h
    | _,_=>none
   | none=>none
  | _=>none
 | .indexAddr t x i=>match cx.P.underlying t with
  | some (.slice e)=>match nQ cx.P e with
   | some (n+1)=>(lU (n+1) (v x) (v i)).bind fun w=>kv w h
   | _=>none
  | some (.array len e)=>match nQ cx.P e with
   | some (n+1)=>(w7 len (n+1) (v x) (v i)).bind fun w=>kv w h
   | _=>none
  | _=>none
 | .index t x i=>match cx.P.underlying t with
  | some .string=>(sS (v x) (v i)).bind fun w=>kv w h
  | some (.array len e)=>match qE cx.P e,nQ cx.P e with
   | some g,some n=>(Er g len n (v x) (v i)).bind fun w=>kv w h
   | _,_=>none
  | _=>none
 | .extract x i=>(nI i (v x)).bind fun w=>kv w h
 | .typeAssert x _ t true=>match cx.P.underlying t with
  | some (.interface _)=>none
  | some _=>match pT cx.P t with
   | some z=>(xV t z (v x)).bind fun w=>kv w h
   | none=>none
  | none=>none
 | .panic x=>KN (v x) h kp
 | .call c=>match c.callee with
  | .builtin b=>p_ cx b c.argTypes.toList (c.args.toList.map v) h kv
  | .value f=>(qO (v f)).bind fun g=>lY (qQ cx.A cx.K g.1 (oT cx.A g.1 (g.2.1++c.args.toList.map v++g.2.2)) h) kv kp
  | .invoke x name=>(wE cx.P name (v x)).bind fun g=>lY (qQ cx.A cx.K g.1 (oT cx.A g.1 (g.2::c.args.toList.map v)) h) kv kp
 | _=>none
def evalOp (cx:Cx) (o:Oper) (rsv:Option Nat) (ρ:List lC) (h:lD) (kv:lC→lD→Option R) (kp:lC→lD→Option R):Option R:=nD cx o rsv (pP cx.A ρ) h kv kp
def pI (ρ:List lC) (dst:Option Tmp) (v:lC):List lC :=
 match dst with
 | some d=>ρ.set d v
 | none=>ρ
open Classical in
def Uw:List Nat→lD→lD→Option R→Option R
 | [],_,_,x=>x
 | id::r,h,h',x=>if ∀b,h[id]?=some b→h'[id]?=some b then Uw r h h' x else none
def nH (cx:Cx) (o:Oper) (ids:List Nat) (ρ:List lC) (h:lD) (kv:lC→lD→Option R) (kp:lC→lD→Option R):Option R :=
 bif cx.ck then evalOp cx o none ρ h (fun v h'=>Uw ids h h' (kv v h')) kp
 else evalOp cx o none ρ (r_ ids h) (fun v h'=>kv v (nL ids h h')) (fun v h'=>kp v (nL ids h h'))
def l9 (kv kp:lC→lD→Option R):R→Option R
 | (.normal,[v],h)=>kv v h
 | (.pan v,_,h)=>kp v h
 | _=>none
def lV (v:lC) (h:lD):Option R:=some (.normal,[v],h)
def FA (v:lC) (h:lD):Option R:=some (.pan v,[],h)
def lJ (want:Bool) (g:lC) (run skip:Option R):Option R :=
 match g with
 | .bool g=>bif want then(bif g then run else skip) else(bif g then skip else run)
 | .tuple []=>skip
 | _=>none
def rF (cx:Cx) (ops:List Oper) (o:Oper) (ids:List Nat) (ρ:List lC) (h:lD) (kv:lC→lD→Option R) (kp:lC→lD→Option R):Option R :=
 match o.guard with
 | none=>nH cx o ids ρ h kv kp
 | some (j,want)=>match (ops[j]?).bind (·.dst) with
  | some d=>(lJ want (ρ.getD d .junk) (nH cx o ids ρ h lV FA) (lV (.tuple []) h)).bind (l9 kv kp)
  | none=>none
def seenAt (A:wC) (o:Oper) (ρ:List lC):lC:=match sM o with
 | some a=>pP A ρ a
 | none=>.junk
def Bt (m:Nat) (v:lC):lC:=bif v.rU m then v else .junk
def u9 (m:Nat):mC→Bool
 | .cells cs=>cs.all (lC.rU m)
 | .vec _ _ cs=>cs.all (lC.rU m)
 | .tcells _ cs=>cs.all (lC.rU m)
 | .map es=>es.all fun e=>e.2.rU m
 | _=>true
def Tp (m:Nat) (h:lD) (kv:lC→lD→Option R):R→Option R
 | (.normal,[v],h')=>bif h'.length == m then kv v (h'++h.drop m) else none
 | _=>none
def u_ (cx:Cx) (o:Oper) (m:Nat) (ids:List Nat) (ρ:List lC) (h:lD) (kv:lC→lD→Option R):Option R :=
 bif (h.take m).all (u9 m) then(nH cx o ids (ρ.map (Bt m)) (h.take m) lV FA).bind (Tp m h kv) else none
def nY (cx:Cx) (ops:List Oper) (m:Nat) (it:Item) (ids:List Nat) (ρ:List lC) (h:lD) (kv:lC→lD→Option R) (kp:lC→lD→Option R):Option R :=
 match it.rsv with
 | some j=>bif qU it.o then evalOp cx it.o (some (m+j)) ρ h kv (fun _ _=>none) else none
 | none=>bif it.hid then(bif uG it.o then u_ cx it.o m ids ρ h kv else none) else rF cx ops it.o ids ρ h kv kp
def Lb {α:Type}:List lC→(List lC→α)→α
 | [],k=>k []
 | x::xs,k=>Lb xs fun ys=>k (x::ys)
theorem uW {α:Type}:∀{l:List lC}{k:List lC→α},Lb l k=k l
 | [],_=>rfl
 | x::xs,k=>by rw [Lb,uW]
def oA (cx:Cx) (ops:List Oper) (m:Nat):List Item→List lC→List lC→lD→(List lC→lD→Option R)→(lC→lD→Option R)→Option R
 | [],_,ρ,h,k,_=>k ρ h
 | it::rest,seen,ρ,h,k,kp =>
  nY cx ops m it (mI it.locks seen) ρ h (fun v h'=>Lb (pI ρ it.o.dst v) fun ρ'=>oA cx ops m rest (seen.set it.i (seenAt cx.A it.o ρ)) ρ' h' k kp) kp
def DG:List Item→Nat
 | []=>0
 | it::r=>match it.rsv with | some _=>DG r+1 | none=>DG r
def JH:Nat→List mC
 | 0=>[]
 | n+1=>.free::JH n
def B2 (n:Nat) (h:lD):lD :=
 match n with
 | 0=>h
 | n+1=>h++JH (n+1)
def tN (cx:Cx) (ops:List Oper) (draw:Bool) (ρ:List lC) (h:lD) (k:List lC→lD→Option R) (kp:lC→lD→Option R):Option R :=
 match draw with
 | false=>oA cx ops 0 (pH ops) [] ρ h k kp
 | true=>match Ad ops with
  | some items=>oA { cx with rb:=false } ops h.length items (al7 ops.length .junk) ρ (B2 (DG items) h) k kp
  | none=>none
def Co (L:Nat) (ρ:List lC) (h:lD):Option R:=some (.normal,pack L ρ,h)
def Cn (L:Nat) (e:Ex) (ρ:List lC) (h:lD):Option R:=some (e,pack L ρ,h)
def apH (b:Bool) (ke:Ex→List lC→lD→Option R) (ρ:List lC):lC→lD→Option R :=
 match b with
 | true=>fun v h=>ke (.pan v) ρ h
 | false=>fun _ _=>none
def Ex.pV (m:Nat) (h:lD):Ex→Ex
 | .pan v=>.pan (v.pV m h)
 | e=>e
def lX (m:Nat) (e:Ex) (vs:List lC) (h:lD):Option R:=(oD m h).map fun h'=>(e.pV m h,vs.map (·.pV m h),h')
def CJ (j:Bool) (m L:Nat) (e:Ex) (ρ:List lC) (h:lD):Option R :=
 match j with
 | false=>some (e,pack L ρ,h)
 | true=>lX m e (pack L ρ) h
def endRound (m L:Nat) (e:Ex) (ρ:List lC) (h:lD):Option R:=lX m e (pack L ρ) h
def A3 (k:Bool) (m L:Nat) (e:Ex) (ρ:List lC) (h:lD):Option R :=
 match k with
 | false=>endRound m L e ρ h
 | true=>some (e,pack L ρ,h)
def evalCode (cx:Cx):Code→Nat→List lC→lD→(List lC→lD→Option R)→(Ex→List lC→lD→Option R)→Option R
 | .skip,_,ρ,h,kn,_=>kn ρ h
 | .region _ ops draw,_,ρ,h,kn,ke=>tN cx ops.toList draw ρ h kn (apH cx.pan ke ρ)
 | .seq a b,L,ρ,h,kn,ke=>evalCode cx a (L ||| ue cx.full b) ρ h (fun ρ' h'=>evalCode cx b L ρ' h' kn ke) ke
 | .cond c a b,L,ρ,h,kn,ke =>
  bif tU a&&tU b then
   (lS (pP cx.A ρ c) (evalCode cx a L ρ h (CJ cx.jt h.length L .normal) (CJ cx.jt h.length L)) (evalCode cx b L ρ h (CJ cx.jt h.length L .normal) (CJ cx.jt h.length L))).bind fun r =>
    bif cx.pan || (leaves [] a || leaves [] b) then r.1.mO (kn (unpack cx.n L r.2.1) r.2.2) fun e=>ke e (unpack cx.n L r.2.1) r.2.2
    else r.1.qZ (kn (unpack cx.n L r.2.1) r.2.2)
  else lS (pP cx.A ρ c) (evalCode cx a L ρ h kn ke) (evalCode cx b L ρ h kn ke)
 | .block id c,L,ρ,h,kn,ke =>
  bif decide (2≤yT id c+bif tU c then 1 else 0) then
   (evalCode cx c L ρ h (CJ cx.jt h.length L .normal) (CJ cx.jt h.length L)).bind fun r=>r.1.inBlock id (kn (unpack cx.n L r.2.1) r.2.2) fun e=>ke e (unpack cx.n L r.2.1) r.2.2
  else evalCode cx c L ρ h kn fun e ρ' h'=>e.inBlock id (kn ρ' h') fun e=>ke e ρ' h'
 | .loop c,L,ρ,h,_,ke =>
  (cx.lp (fun s=>evalCode cx c (L ||| ue cx.full c) (unpack cx.n (L ||| ue cx.full c) s.1) s.2 (A3 cx.lkp h.length (L ||| ue cx.full c) .normal) (A3 cx.lkp h.length (L ||| ue cx.full c)))
    (pack (L ||| ue cx.full c) ρ,h)).bind
   fun r=>r.1.mO none fun e=>ke e (unpack cx.n (L ||| ue cx.full c) r.2.1) r.2.2
 | .scope c,L,ρ,h,kn,ke=>evalCode cx c L ρ h kn ke
 | .label _,_,ρ,h,kn,_=>kn ρ h
 | .exit id,_,ρ,h,_,ke=>ke (.exit id) ρ h
 | .ret,_,ρ,h,_,ke=>ke .ret ρ h
 | _,_,_,_,_,_=>none
def tJ:Code→Bool
 | .skip | .exit _ | .ret=>true
 | .region _ ops _=>ops.toList.all fun o=>match o.op with | .defer _=>false | _=>true
 | .seq a b | .cond _ a b=>tJ a&&tJ b
 | .block _ c | .loop c=>tJ c
 | _=>false
def q7 (fn:Func):Nat:=fn.results.toList.foldl (fun m r=>match r with | .tmp t=>m ||| yV t | .cell a _=>m ||| yV a) 0
def wF (P:Program) (ρ:List lC) (h:lD):ResultVar→Option lC
 | .tmp t=>some (ρ.getD t .junk)
 | .cell a t=>match qE P t,nQ P t with
  | some g,some n=>lP g n h (ρ.getD a .junk)
  | _,_=>none
def uC (P:Program) (ρ:List lC) (h:lD):List ResultVar→(List lC→Option (nB×lD))→Option (nB×lD)
 | [],k=>k []
 | .tmp t::r,k=>uC P ρ h r fun vs=>k (ρ.getD t .junk::vs)
 | .cell a t::r,k=>match qE P t,nQ P t with
  | some g,some n=>(lP g n h (ρ.getD a .junk)).bind fun v=>uC P ρ h r fun vs=>k (v::vs)
  | _,_=>none
def oneOf:List lC→lC
 | [v]=>v
 | vs=>.tuple vs
def nJ (m:Nat) (v:lC) (h:lD):Option (nB×lD):=(oD m h).map fun h'=>(.ret (v.pV m h).lL,h')
def aoW (m:Nat) (v:lC) (h:lD):Option (nB×lD):=(oD m h).map fun h'=>(.ret (v.pV m h),h')
def aoV (m:Nat) (v:lC) (h:lD):Option (nB×lD):=(sB h v).bind fun y=>nJ m y.1 y.2
def lC.x_ (v:lC):List Nat:=match uA v with | some id=>[id] | none=>[]
def lC.refs:lC→List Nat
 | .agg cs=>cs.flatMap lC.x_
 | .tuple vs=>vs.flatMap fun v=>match v with | .agg cs=>cs.flatMap lC.x_ | v=>v.x_
 | v=>v.x_
def mC.refs:mC→List Nat
 | .cells cs=>cs.flatMap lC.x_
 | .vec _ _ cs=>cs.flatMap lC.x_
 | .tcells _ cs=>cs.flatMap lC.x_
 | .map es=>es.flatMap fun e=>e.2.x_
 | _=>[]
def lC.zR (f:Nat→Nat):lC→lC
 | .ptr id o=>.ptr (f id) o
 | .mslice id a b c=>.mslice (f id) a b c
 | .vslice id t a b c=>.vslice (f id) t a b c
 | .vptr id t o=>.vptr (f id) t o
 | .map id=>.map (f id)
 | .slice rows (.own id)=>.slice rows (.own (f id))
 | v=>v
def lC.uQ (f:Nat→Nat):lC→lC
 | .agg cs=>.agg (cs.map (lC.zR f))
 | .tuple vs=>.tuple (vs.map fun v=>match v with | .agg cs=>.agg (cs.map (lC.zR f)) | v=>v.zR f)
 | v=>v.zR f
def lC.IS (p:Nat→Bool):lC→Bool
 | .agg _=>false
 | .tuple _=>false
 | .iface _ _=>false
 | .func _ first cap=>first.isEmpty&&cap.isEmpty
 | v=>match uA v with | some r=>p r | none=>true
def lC.ok (p:Nat→Bool):lC→Bool
 | .agg cs=>cs.all (lC.IS p)
 | .tuple vs=>vs.all fun v=>match v with | .agg cs=>cs.all (lC.IS p) | v=>v.IS p
 | v=>v.IS p
def mC.uQ (f:Nat→Nat):mC→mC
 | .cells cs=>.cells (cs.map (lC.zR f))
 | .vec t s cs=>.vec t s (cs.map (lC.zR f))
 | .tcells t cs=>.tcells t (cs.map (lC.zR f))
 | .map es=>.map (es.map fun e=>(e.1,e.2.zR f))
 | b=>b
def mC.ok (p:Nat→Bool):mC→Bool
 | .cells cs=>cs.all (lC.IS p)
 | .vec _ _ cs=>cs.all (lC.IS p)
 | .tcells _ cs=>cs.all (lC.IS p)
 | .map es=>es.all fun e=>e.2.IS p
 | _=>true
def nB.uQ (f:Nat→Nat):nB→nB
 | .ret v=>.ret (v.uQ f)
 | .pan v=>.pan (v.uQ f)
def nB.ok (p:Nat→Bool):nB→Bool
 | .ret v=>v.ok p
 | .pan v=>v.ok p
def Ai:List Nat→Nat→Nat
 | [],_=>0
 | a::r,i=>bif a == i then 0 else Ai r i+1
def sU:List Nat→Bool
 | []=>true
 | a::r=>!(r.contains a)&&sU r
def KF (acc:List Nat):List Nat→List Nat
 | []=>acc
 | i::r=>KF (bif acc.contains i then acc else acc++[i]) r
def KS (h:lD):Nat→List Nat→List Nat
 | 0,acc=>acc
 | n+1,acc=>KS h n (KF acc (acc.flatMap fun i=>match h[i]? with | some b=>b.refs | none=>[]))
def reach (h:lD) (args:List lC):List Nat:=KS h 3 (KF [] (args.flatMap lC.refs))
def x8:List Nat→lD→lD→lD
 | i::is,b::bs,h=>x8 is bs (h.set i b)
 | _,_,h=>h
def J8 (ids:List Nat) (args:List lC) (h:lD):Bool :=
 args.all (lC.ok fun i=>ids.contains i)&&(sU ids&&ids.all fun i=>match h[i]? with | some b=>b.ok fun i=>ids.contains i | none=>false)
def xQ (ids:List Nat) (h:lD):lD:=ids.map fun i=>(h.getD i .free).uQ (Ai ids)
def Gt (ids:List Nat) (h:lD) (r:nB×lD):Option (nB×lD) :=
 bif r.2.length == ids.length&&(r.2.all (mC.ok fun j=>decide (j<ids.length))&&r.1.ok fun j=>decide (j<ids.length))
 then some (r.1.uQ fun j=>ids.getD j 0,x8 ids (r.2.map (mC.uQ fun j=>ids.getD j 0)) h) else none
def Xu (K:lN) (ids:List Nat):lN:=fun f args h =>
 bif J8 ids args h then(K f (args.map (lC.uQ (Ai ids))) (xQ ids h)).bind (Gt ids h) else none
def akI (K:lN):lN:=fun f args h=>Xu K (reach h args) f args h
def HO (m:Nat) (v:lC) (h:lD):List Nat:=KF (aq5 m) (reach h [v])
def Sv (ids:List Nat) (h:lD):Bool:=sU ids&&ids.all fun i=>match h[i]? with | some b=>b.ok fun i=>ids.contains i | none=>false
def Vw (ids:List Nat) (v:lC) (h:lD):Option (nB×lD):=bif v.ok (fun i=>ids.contains i)&&Sv ids h then some (.ret (v.uQ (Ai ids)),xQ ids h) else none
def Je (m:Nat) (v:lC) (h:lD):Option (nB×lD):=Vw (HO m v h) v h
def finish (A:wC) (f:Nat) (m:Nat) (v:lC) (h:lD):Option (nB×lD) :=
 bif A.esc f then some (.ret v,h) else bif A.grow f then aoW m v h else bif A.frr f then aoV m v h else bif A.out f then Je m v h else nJ m v h
def Ex.nR (e:Ex) (x:Option (nB×lD)):Option (nB×lD) :=
 match e with
 | .normal=>x
 | .ret=>x
 | _=>none
def Ex.Pm (e:Ex) (x:Option (nB×lD)) (xp:lC→Option (nB×lD)):Option (nB×lD) :=
 match e with
 | .normal=>x
 | .ret=>x
 | .pan v=>xp v
 | _=>none
def Zs (m:Nat) (v:lC) (h:lD):Option (nB×lD):=(oD m h).map fun h'=>(.pan (v.pV m h).lL,h')
def A2 (P:Program) (A:wC) (f:Nat) (fn:Func) (m:Nat) (e:Ex) (ρ:List lC) (h:lD):Option (nB×lD) :=
 bif A.pan f then e.Pm (uC P ρ h fn.results.toList fun vs=>finish A f m (oneOf vs) h) fun v=>bif A.kp f then some (.pan v,h) else Zs m v h
 else e.nR (uC P ρ h fn.results.toList fun vs=>finish A f m (oneOf vs) h)
def BT (o:Oper):Bool:=o.guard.isNone&&match o.op with | .call c=>(match c.callee with | .builtin .recover=>true | _=>false) | _=>false
def RQ (o:Oper):Option Operand :=
 match o.guard,o.op with
 | none,.defer c=>match c.callee with
  | .value f=>bif c.args.isEmpty&&o.dst.isNone then some f else none
  | _=>none
 | _,_=>none
def zE (ops:List Oper):Option Operand:=(ops.getLast?).bind RQ
def Bi (m:Nat):Code→Bool
 | .region _ ops _=>ops.toList.all fun o=>match o.dst with | some d=>!(m.testBit d) | none=>true
 | .seq a b | .cond _ a b=>Bi m a&&Bi m b
 | .block _ c | .loop c=>Bi m c
 | .skip | .exit _ | .ret=>true
 | _=>false
def Ex.Pl (e:Ex) (xn:Option R) (xp:lC→Option R):Option R :=
 match e with
 | .normal=>xn
 | .ret=>xn
 | .pan v=>xp v
 | _=>none
def Ex.Vo (e:Ex) (x:Option lD):Option lD :=
 match e with
 | .normal=>x
 | .ret=>x
 | _=>none
def tH (cx:Cx) (g:Nat) (caps:List lC) (pv:Option lC) (h:lD):Option lD :=
 match cx.P.funcs[g]? with
 | some fn=>match fn.body with
  | some (.seq (.region _ ops false) c)=>match ops.toList with
   | o::_=>bif BT o&&decide (caps.length≤fn.ntmps)&&fn.results.isEmpty&&!(fn.name == "runtime.NumGoroutine") then
     (oA { cx with n:=fn.ntmps,full:=2^fn.ntmps-1,pan:=false } ops.toList 0 (pH ops.toList).tail []
      (pI (caps++al7 (fn.ntmps-caps.length) (.tuple [])) o.dst (pv.getD .niliface)) h
      (fun ρ' h'=>evalCode { cx with n:=fn.ntmps,full:=2^fn.ntmps-1,pan:=false } c 0 ρ' h' (Co 0) (Cn 0)) (fun _ _=>none)).bind
      fun r=>r.1.Vo (oD h.length r.2.2)
    else none
   | []=>none
  | _=>none
 | none=>none
def xB (cx:Cx) (b:Code) (L:Nat) (fv:lC) (ρ:List lC) (h:lD):Option R :=
 bif Bi L b then(qO fv).bind fun g =>
  (evalCode { cx with pan:=true } b L ρ h (Co L) (Cn L)).bind fun r =>
   r.1.Pl ((tH cx g.1 (g.2.1++g.2.2) none r.2.2).map fun h2=>(.ret,r.2.1,h2)) fun v=>(tH cx g.1 (g.2.1++g.2.2) (some v) r.2.2).map fun h2=>(.ret,pack L ρ,h2)
 else none
def Ex.Sf (e:Ex) (x:Option R):Option R :=
 match e with
 | .ret=>x
 | _=>none
def JS (L:Nat) (e:Ex) (ρ:List lC) (h:lD):Option R:=e.Sf (some (.ret,pack L ρ,h))
def qP (cx:Cx):Code→Nat→List lC→lD→Option R
 | .seq (.region id ops false) b,L,ρ,h=>match zE ops.toList with
  | some f=>oA cx ops.toList 0 (pH ops.toList).dropLast [] ρ h (fun ρ' h'=>xB cx b L (pP cx.A ρ' f) ρ' h') (fun _ _=>none)
  | none=>evalCode cx (.region id ops false) (L ||| ue cx.full b) ρ h (fun ρ' h'=>qP cx b L ρ' h') (JS L)
 | .seq a b,L,ρ,h=>evalCode cx a (L ||| ue cx.full b) ρ h (fun ρ' h'=>qP cx b L ρ' h') (JS L)
 | _,_,_,_=>none
def A5 (cx:Cx) (d:Bool) (c:Code) (L:Nat) (ρ:List lC) (h:lD):Option R :=
 match d with
 | true=>qP { cx with pan:=false } c L ρ h
 | false=>evalCode cx c L ρ h (Co L) (Cn L)
def KX (P:Program) (A:wC) (K:lN) (lp:(List lC×lD→Option R)→List lC×lD→Option R) (f:Nat) (fn:Func) (c:Code) (args:List lC) (h:lD):Option (nB×lD) :=
 (A5 { P,A,K,lp,n:=fn.ntmps,full:=2^fn.ntmps-1,pan:=A.pan f,vec:=A.Rp f,frz:=A.frz f,vlit:=A.II f,vmk:=A.vmk f,jt:=A.jt f,lkp:=A.lkp f,rb:=A.rb f,frl:=A.frl f,tb:=A.tb f,ck:=A.ck f } (A.dfr f) c (q7 fn)
   (args++al7 (fn.ntmps-args.length) (.tuple [])) h).bind
  fun r=>A2 P A f fn h.length r.1 (unpack fn.ntmps (q7 fn) r.2.1) r.2.2
def qC:Nat→(List lC×lD→Option R)→List lC×lD→Option R
 | 0,_,_=>none
 | n+1,F,s=>(F s).bind fun r=>r.1.mO (qC n F r.2) fun e=>some (e,r.2)
def tA (out:Bool) (h:lD) (r:nB×lD):Option (nB×lD):=match r.2 with
 | []=>some (r.1,h)
 | _=>bif out&&(r.2.all (mC.ok fun j=>decide (j<r.2.length))&&r.1.ok fun j=>decide (j<r.2.length)) then some (r.1.uQ fun j=>h.length+j,h++r.2.map (mC.uQ fun j=>h.length+j)) else none
def mH (A:wC) (K:lN):lN:=fun f args h =>
 bif A.pure f then(bif args.all (lC.rU 0) then(K f args []).bind (tA (A.out f) h) else none) else bif A.sub f then akI K f args h else K f args h
abbrev Ut:=(List lC×lD→Option R)→List lC×lD→Option R
def qG (P:Program) (A:wC) (lp:Ut) (K:lN) (f:Nat) (args:List lC) (h:lD):Option (nB×lD) :=
 match A.prm f with
 | some k=>N8 A.bld k args h
 | none=>match A.srf f with
 | some g=>FL g args h
 | none=>match P.funcs[f]? with
  | some fn=>match fn.body with
   | some c=>bif decide (args.length≤fn.ntmps)&&!(fn.name == "runtime.NumGoroutine") then(KX P A (mH A K) lp f fn c args h) else none
   | none=>none
  | none=>none
def MQ (P:Program) (A:wC) (lp:Ut):Nat→lN
 | 0,_,_,_=>none
 | n+1,f,args,h=>qG P A lp (MQ P A lp n) f args h
end
end
section
open Go Go.RowKit
structure Gh where
 H:Nat→Nat→Option Value
 mU:Nat→Nat
 cur:Nat→Value
inductive oQ (H:Nat→Nat→Option Value):lC→Value→Prop
 | junk (V:Value):oQ H .junk V
 | bool (b:Bool):oQ H (.bool b) (.bool b)
 | int (k:IntKind) (n:Int):oQ H (.int k n) (.int k n)
 | str (s:List UInt8):oQ H (.str s) (.string ⟨s.toArray⟩)
 | agg (cs:List lC) (C:Array Value) (hl:cs.length=C.size) (h:∀(i:Nat) (v:lC),cs[i]?=some v→oQ H v (C.getD i undef)):oQ H (.agg cs) (.agg C)
 | tuple (cs:List lC) (C:Array Value) (hl:cs.length=C.size) (h:∀(i:Nat) (v:lC),cs[i]?=some v→oQ H v (C.getD i undef)):oQ H (.tuple cs) (.tuple C)
 | slice0 (a:Option Addr) (cap:Nat):oQ H (.slice [] .no) (.slice a 0 cap)
 | slice (rows:List (List lC)) (b off cap sz:Nat) (V:Nat→Value) (hr:∀r∈rows,r.length=sz) (hc:rows.length≤cap)
   (hH:∀(i j:Nat) (row:List lC) (v:lC),rows[i]?=some row→row[j]?=some v→H b (off+(i*sz+j))=some (V (i*sz+j)))
   (hk:∀(i j:Nat) (row:List lC) (v:lC),rows[i]?=some row→row[j]?=some v→v.mE=true)
   (hV:∀(i j:Nat) (row:List lC) (v:lC),rows[i]?=some row→row[j]?=some v→oQ H v (V (i*sz+j))) :
   oQ H (.slice rows .no) (.slice (some ⟨b,off,none⟩) rows.length cap)
 | pptr (cs:List lC) (b off:Nat) (V:Nat→Value)
   (hH:∀(j:Nat) v,cs[j]?=some v→H b (off+j)=some (V j))
   (hk:∀(j:Nat) (v:lC),cs[j]?=some v→v.mE=true)
   (hV:∀(j:Nat) v,cs[j]?=some v→oQ H v (V j)):oQ H (.pptr cs) (.pointer (some ⟨b,off,none⟩))
 | nilptr:oQ H .nilptr (.pointer none)
 | nilmap:oQ H .nilmap (.map none)
 | nilfunc:oQ H .nilfunc .nilFunc
 | meth (n:String) (t:Nat) (W:Value) (C:Array Value):oQ H (.meth n t) (.func (.method n) #[.iface t W] C)
 | niliface:oQ H .niliface .nilIface
 | func (f:Nat):oQ H (.func f [] []) (.func (.func f) #[] #[])
 | iface (t:Nat) (v:lC) (V:Value) (h:oQ H v V):oQ H (.iface t v) (.iface t V)
theorem oQ.mono {H H':Nat→Nat→Option Value}(hh:∀b k v,H b k=some v→H' b k=some v) {v:lC}{V:Value}(h:oQ H v V):oQ H' v V:=by
 induction h with
 | junk V=>exact .junk V
 | bool b=>exact .bool b
 | int k n=>exact .int k n
 | str s=>exact .str s
 | agg cs C hl _ ih=>exact .agg cs C hl ih
 | tuple cs C hl _ ih=>exact .tuple cs C hl ih
 | slice0 a cap=>exact .slice0 a cap
 | slice rows b off cap sz V hr hc hH hk _ ih=>exact .slice rows b off cap sz V hr hc (fun i j row v h1 h2=>hh _ _ _ (hH i j row v h1 h2)) hk ih
 | pptr cs b off V hH hk _ ih=>exact .pptr cs b off V (fun j v h1=>hh _ _ _ (hH j v h1)) hk ih
 | nilptr=>exact .nilptr
 | nilmap=>exact .nilmap
 | nilfunc=>exact .nilfunc
 | meth n t W C=>exact .meth n t W C
 | niliface=>exact .niliface
 | func f=>exact .func f
 | iface t v V _ ih=>exact .iface t v V ih
def live (h:lD) (id:Nat):Prop:=∃b,h[id]?=some b∧b≠.free
def sV (h:lD) (id:Nat):Prop:=∃b,h[id]?=some b∧b≠.free∧∀n sz t,b≠.front n sz t
def vP:Value→Nat
 | .slice _ n _=>n
 | _=>0
inductive lT (G:Gh) (h:lD):lC→Value→Prop
 | p (v:lC) (V:Value) (hp:oQ G.H v V):lT G h v V
 | agg (cs:List lC) (C:Array Value) (hl:cs.length=C.size) (hh:∀(i:Nat) (v:lC),cs[i]?=some v→lT G h v (C.getD i undef)):lT G h (.agg cs) (.agg C)
 | tuple (cs:List lC) (C:Array Value) (hl:cs.length=C.size) (hh:∀(i:Nat) (v:lC),cs[i]?=some v→lT G h v (C.getD i undef)):lT G h (.tuple cs) (.tuple C)
 | nil:lT G h (.slice [] .nil) (.slice none 0 0)
 | own (rows:List (List lC)) (id n sz:Nat) (V:Value) (hp:oQ G.H (.slice rows .no) V) {t:Nat}(hf:h[id]?=some (.front n sz t)) (hn:rows.length≤n) (hr:∀r∈rows,r.length=sz) (hc:rows.length=n→V=G.cur id):lT G h (.slice rows (.own id)) V
 | ownv {rows:List (List lC)}(id:Nat) (V:Value) (hp:oQ G.H (.slice rows .no) V) (hb:sV h id):lT G h (.slice rows (.own id)) V
 | vslice (id tot off len sz b cap:Nat) (hl:sV h id) (ht:tot≤vP (G.cur id)) (hc:len≤cap)
   (hv:tot=vP (G.cur id)→∃l cap0,G.cur id=.slice (some ⟨b,0,none⟩) tot cap0∧off=l*sz∧l+len≤tot∧cap=cap0-l):lT G h (.vslice id tot off len sz) (.slice (some ⟨b,off,none⟩) len cap)
 | vptr (id tot off b:Nat) (hl:sV h id) (ht:tot≤vP (G.cur id)) (hv:tot=vP (G.cur id)→∃cap0,G.cur id=.slice (some ⟨b,0,none⟩) tot cap0):lT G h (.vptr id tot off) (.pointer (some ⟨b,off,none⟩))
 | ptr (id off:Nat) (hl:live h id):lT G h (.ptr id off) (.pointer (some ⟨G.mU id,off,none⟩))
 | mslice (id off len sz cap:Nat) (hl:live h id) (hc:len≤cap):lT G h (.mslice id off len sz) (.slice (some ⟨G.mU id,off,none⟩) len cap)
 | mslice0 (id off sz cap:Nat) (a:Option Addr):lT G h (.mslice id off 0 sz) (.slice a 0 cap)
 | map (id:Nat) (hl:live h id):lT G h (.map id) (.map (some (G.mU id)))
 | func (f:Nat) (first cap:List lC) (F C:Array Value) (hlf:first.length=F.size) (hlc:cap.length=C.size)
   (hf:∀(i:Nat) (v:lC),first[i]?=some v→lT G h v (F.getD i undef)) (hc:∀(i:Nat) (v:lC),cap[i]?=some v→lT G h v (C.getD i undef)):lT G h (.func f first cap) (.func (.func f) F C)
 | iface (t:Nat) (v:lC) (V:Value) (hh:lT G h v V):lT G h (.iface t v) (.iface t V)
def owner (G:Gh) (h:lD) (id:Nat):Option Nat :=
 match h[id]? with
 | some (.cells _) | some (.map _) | some (.tcells _ _)=>some (G.mU id)
 | some (.front _ _ _) | some (.vec _ _ _)=>(G.cur id).ownBlock
 | _=>none
def v_ (G:Gh) (h:lD) (w:World) (id:Nat):mC→Prop
 | .free=>True
 | .gone=>True
 | .cells cs=>∃C e,w.heap[G.mU id]?=some (.cells C e (0,0))∧C.size=cs.length∧(∀k,G.H (G.mU id) k=none) ∧
   ∀(i:Nat) (v:lC),cs[i]?=some v→v.mE=true∧lT G h v (C.getD i undef)
 | .tcells e cs=>∃C,w.heap[G.mU id]?=some (.cells C e (0,0))∧C.size=cs.length∧(∀k,G.H (G.mU id) k=none) ∧
   ∀(i:Nat) (v:lC),cs[i]?=some v→v.mE=true∧lT G h v (C.getD i undef)
 | .front n sz t=>(n=0∧G.cur id=.slice none 0 0)∨∃b cap C e,G.cur id=.slice (some ⟨b,0,none⟩) n cap∧w.heap[b]?=some (.cells C e (0,0)) ∧
   n≤cap∧cap≤maxLen∧C.size=cap*sz∧0<sz∧(∀k,n*sz≤k→G.H b k=none)∧(t≠0→e+1=t)
 | .vec tot sz cs=>∃b cap C e,G.cur id=.slice (some ⟨b,0,none⟩) tot cap∧w.heap[b]?=some (.cells C e (0,0))∧tot≤cap∧cap≤maxLen∧C.size=cap*sz∧0<sz∧cs.length=tot*sz∧(∀k,G.H b k=none) ∧
   ∀(i:Nat) (v:lC),cs[i]?=some v→v.mE=true∧lT G h v (C.getD i undef)
 | .map es=>∃E clock,w.heap[G.mU id]?=some (.map E clock)∧E.size=es.length∧(∀k,G.H (G.mU id) k=none) ∧
   (∀(i:Nat) (kv:lC×lC),es[i]?=some kv→∃m,E[i]?=some m∧CH kv.1=true∧oQ G.H kv.1 m.key∧lT G h kv.2 m.val)∧MapKept.Stamped E clock
structure Inv (G:Gh) (h:lD) (w:World):Prop where
 ok:∀b k v,G.H b k=some v→w.cell? ⟨b,k,none⟩=some v
 mU:∀id bl,h[id]?=some bl→v_ G h w id bl
 inj:∀i j b,owner G h i=some b→owner G h j=some b→i=j
def Kind (G G':Gh) (id:Nat):mC→mC→Prop
 | .free,_=>True
 | .gone,.gone=>G'.mU id=G.mU id∧G'.cur id=G.cur id
 | .cells a,.cells b=>a.length=b.length∧G'.mU id=G.mU id∧G'.cur id=G.cur id
 | .map _,.map _=>G'.mU id=G.mU id∧G'.cur id=G.cur id
 | .tcells t a,.tcells t' b=>t'=t∧a.length=b.length∧G'.mU id=G.mU id∧G'.cur id=G.cur id
 | .front n sz _,.front n' sz' _=>n≤n'∧(n=n'→G'.cur id=G.cur id)∧G'.mU id=G.mU id∧(0<n→sz'=sz)
 | .front n _ _,.vec _ _ _=>n=0∧G'.mU id=G.mU id
 | .front _ _ _,.gone=>G'.mU id=G.mU id
 | .vec _ _ _,.vec _ _ _=>G'.mU id=G.mU id∧vP (G.cur id)≤vP (G'.cur id)∧(vP (G.cur id)=vP (G'.cur id)→G'.cur id=G.cur id)
 | .vec _ _ _,.gone=>G'.mU id=G.mU id∧vP (G.cur id)≤vP (G'.cur id)∧(vP (G.cur id)=vP (G'.cur id)→G'.cur id=G.cur id)
 | _,_=>False
structure Ext (G:Gh) (h:lD) (w:World) (G':Gh) (h':lD) (w':World):Prop where
 os:w'.os=w.os
 tape:w'.tape=w.tape
 output:w'.output=w.output
 size:w.heap.size≤w'.heap.size
 frame:∀b,b<w.heap.size→(∀id,owner G h id≠some b)→w'.heap[b]?=w.heap[b]?∧∀k,G'.H b k=G.H b k
 hmono:∀b k v,G.H b k=some v→G'.H b k=some v
 own:∀id b,owner G' h' id=some b→b<w.heap.size→owner G h id=some b
 kinds:∀id bl,h[id]?=some bl→∃bl',h'[id]?=some bl'∧Kind G G' id bl bl'
theorem Kind.refl (G:Gh) (id:Nat) (b:mC):Kind G G id b b:=by cases b <;> simp [Kind]
theorem Kind.trans {G G' G'':Gh}{id:Nat}{a b c:mC}(h:Kind G G' id a b) (h':Kind G' G'' id b c):Kind G G'' id a c:=by
 cases a <;> cases b <;> cases c <;> simp only [Kind] at h h' ⊢ <;> first
  | exact h.elim
  | exact h'.elim
  | trivial
  | exact⟨h'.1.trans h.1,h'.2.trans h.2⟩
  | exact⟨h.1.trans h'.1,h'.2.1.trans h.2.1,h'.2.2.trans h.2.2⟩
  | exact⟨by omega,by omega,h'.2.2.1.trans h.2.2.1,fun e=>by rw [h'.2.2.2 (by omega),h.2.2.2 e]⟩
  | exact⟨by omega,fun e=>by rw [h'.2.1 (by omega),h.2.1 (by omega)],h'.2.2.1.trans h.2.2.1,fun e=>by rw [h'.2.2.2 (by omega),h.2.2.2 e]⟩
  | exact⟨h'.1.trans h.1,by omega,fun e=>by rw [h'.2.2 (by omega),h.2.2 (by omega)]⟩
  | exact⟨h'.1.trans h.1,by have:=h'.2;rw [h'.2];exact h.2.1,fun e=>by rw [h'.2] at e ⊢;exact h.2.2 e⟩
  | exact⟨h.1,h'.1.trans h.2⟩
  | exact⟨by omega,h'.2.trans h.2.2.1⟩
  | exact h'.trans h.2.2.1
  | exact h'.1.trans h
  | exact h'.1.trans h.2
  | exact⟨h'.1.trans h.1,h.2.1.trans h'.2.1,h'.2.2.1.trans h.2.2.1,h'.2.2.2.trans h.2.2.2⟩
  | skip
theorem Ext.refl (G:Gh) (h:lD) (w:World):Ext G h w G h w :=
 ⟨rfl,rfl,rfl,ai1 _,fun _ _ _=>⟨rfl,fun _=>rfl⟩,fun _ _ _ h=>h,fun _ _ h _=>h,fun id bl hb=>⟨bl,hb,Kind.refl G id bl⟩⟩
theorem Ext.trans {G G' G'':Gh}{h h' h'':lD}{w w' w'':World}(a:Ext G h w G' h' w') (b:Ext G' h' w' G'' h'' w''):Ext G h w G'' h'' w'' where
 os:=b.os.trans a.os
 tape:=b.tape.trans a.tape
 output:=b.output.trans a.output
 size:=Nat.le_trans a.size b.size
 frame:=fun c hc hn=>by
  obtain⟨h1,h2⟩:=a.frame c hc hn
  obtain⟨h3,h4⟩:=b.frame c (Nat.lt_of_lt_of_le hc a.size) (fun id ho=>hn id (a.own id c ho hc))
  exact⟨h3.trans h1,fun k=>(h4 k).trans (h2 k)⟩
 hmono:=fun c k v hv=>b.hmono c k v (a.hmono c k v hv)
 own:=fun id c ho hc=>a.own id c (b.own id c ho (Nat.lt_of_lt_of_le hc a.size)) hc
 kinds:=fun id bl hb=>by
  obtain⟨b1,h1,k1⟩:=a.kinds id bl hb
  obtain⟨b2,h2,k2⟩:=b.kinds id b1 h1
  exact⟨b2,h2,k1.trans k2⟩
structure AT (G:Gh) (h:lD) (G':Gh) (h':lD):Prop where
 hmono:∀b k v,G.H b k=some v→G'.H b k=some v
 kinds:∀id bl,h[id]?=some bl→∃bl',h'[id]?=some bl'∧Kind G G' id bl bl'
theorem Ext.toMono {G G':Gh}{h h':lD}{w w':World}(a:Ext G h w G' h' w'):AT G h G' h':=⟨a.hmono,a.kinds⟩
theorem Kind.mU {G G':Gh}{id:Nat}{a b:mC}(h:Kind G G' id a b) (ha:a≠.free):b≠.free∧G'.mU id=G.mU id:=by
 cases a <;> cases b <;> simp_all [Kind]
theorem Kind.nf {G G':Gh}{id:Nat}{a b:mC}(h:Kind G G' id a b) (ha:a≠.free) (hn:∀n sz t,a≠.front n sz t):∀n sz t,b≠.front n sz t:=by
 cases a <;> cases b <;> simp_all [Kind]
theorem Kind.cur {G G':Gh}{id:Nat}{a b:mC}(h:Kind G G' id a b) (ha:a≠.free) (hn:∀n sz t,a≠.front n sz t):vP (G.cur id)≤vP (G'.cur id)∧(vP (G.cur id)=vP (G'.cur id)→G'.cur id=G.cur id):=by
 cases a <;> cases b <;> simp_all [Kind]
theorem AT.live {G G':Gh}{h h':lD}(m:AT G h G' h') {id:Nat}(hl:live h id):live h' id∧G'.mU id=G.mU id:=by
 obtain⟨bl,h1,h2⟩:=hl
 obtain⟨bl',h3,h4⟩:=m.kinds id bl h1
 exact⟨⟨bl',h3,(h4.mU h2).1⟩,(h4.mU h2).2⟩
theorem AT.nf {G G':Gh}{h h':lD}(m:AT G h G' h') {id:Nat}(hl:sV h id):sV h' id∧vP (G.cur id)≤vP (G'.cur id)∧(vP (G.cur id)=vP (G'.cur id)→G'.cur id=G.cur id):=by
 obtain⟨bl,h1,h2,h3⟩:=hl
 obtain⟨bl',h4,h5⟩:=m.kinds id bl h1
 exact⟨⟨bl',h4,(h5.mU h2).1,h5.nf h2 h3⟩,h5.cur h2 h3⟩
theorem lT.mono {G G':Gh}{h h':lD}(m:AT G h G' h') {v:lC}{V:Value}(r:lT G h v V):lT G' h' v V:=by
 induction r with
 | p v V hp=>exact .p v V (hp.mono m.hmono)
 | agg cs C hl _ ih=>exact .agg cs C hl ih
 | tuple cs C hl _ ih=>exact .tuple cs C hl ih
 | nil=>exact .nil
 | own rows id n sz V hp hf hn hr hc =>
  obtain⟨bl',h3,h4⟩:=m.kinds id _ hf
  cases bl' with
  | front n' sz' t' =>
   obtain⟨h6,h7,_,h8⟩:=h4
   exact .own rows id n' sz' V (hp.mono m.hmono) h3 (by omega) (fun r hm=>by rw [h8 (by have:=List.length_pos_of_mem hm;omega)];exact hr r hm)
    (fun e=>by rw [h7 (by omega)];exact hc (by omega))
  | vec tot sz' cs =>
   obtain rfl:rows=[]:=aq9 (by have:=h4.1;omega)
   exact .ownv id V (hp.mono m.hmono) ⟨_,h3,by simp,by simp⟩
  | gone =>
   exact .ownv id V (hp.mono m.hmono) ⟨_,h3,by simp,by simp⟩
  | _=>exact h4.elim
 | ownv id V hp hb=>exact .ownv id V (hp.mono m.hmono) (m.nf hb).1
 | vslice id tot off len sz b cap hl ht hc hv =>
  obtain⟨h1,h2,h3⟩:=m.nf hl
  exact .vslice id tot off len sz b cap h1 (by omega) hc fun e=>by rw [h3 (by omega)];exact hv (by omega)
 | vptr id tot off b hl ht hv =>
  obtain⟨h1,h2,h3⟩:=m.nf hl
  exact .vptr id tot off b h1 (by omega) fun e=>by rw [h3 (by omega)];exact hv (by omega)
 | ptr id off hl=>obtain⟨h1,h2⟩:=m.live hl;rw [←h2];exact .ptr id off h1
 | mslice id off len sz cap hl hc=>obtain⟨h1,h2⟩:=m.live hl;rw [←h2];exact .mslice id off len sz cap h1 hc
 | mslice0 id off sz cap a=>exact .mslice0 id off sz cap a
 | map id hl=>obtain⟨h1,h2⟩:=m.live hl;rw [←h2];exact .map id h1
 | func f first cap F C hlf hlc _ _ ihf ihc=>exact .func f first cap F C hlf hlc ihf ihc
 | iface t v V _ ih=>exact .iface t v V ih
end
section
open Go Go.RowKit
section inv
variable {G:Gh}{h:lD}{V:Value}
theorem lT.pB {k:IntKind}{n:Int}(r:lT G h (.int k n) V):V=.int k n:=by
 cases r with | p _ _ hp=>cases hp;rfl
theorem lT.uE {b:Bool}(r:lT G h (.bool b) V):V=.bool b:=by
 cases r with | p _ _ hp=>cases hp;rfl
theorem lT.vG {s:List UInt8}(r:lT G h (.str s) V):V=.string ⟨s.toArray⟩:=by
 cases r with | p _ _ hp=>cases hp;rfl
theorem lT.rH {rows:List (List lC)}{t:Tok}(r:lT G h (.slice rows t) V):oQ G.H (.slice rows .no) V:=by
 cases r with
 | p _ _ hp =>
  cases hp with
  | slice0 a cap=>exact .slice0 a cap
  | slice rows b off cap sz V hr hc hH hk hV=>exact .slice rows b off cap sz V hr hc hH hk hV
 | nil=>exact .slice0 none 0
 | own rows id n sz V hp hf hn hr hc=>exact hp
 | ownv id V hp hb=>exact hp
theorem lT.pY {id tot off len sz:Nat}(r:lT G h (.vslice id tot off len sz) V):∃b cap,V=.slice (some ⟨b,off,none⟩) len cap∧sV h id∧tot≤vP (G.cur id)∧len≤cap ∧
   (tot=vP (G.cur id)→∃l cap0,G.cur id=.slice (some ⟨b,0,none⟩) tot cap0∧off=l*sz∧l+len≤tot∧cap=cap0-l):=by
 cases r with
 | p _ _ hp=>cases hp
 | vslice _ _ _ _ _ b cap hl ht hc hv=>exact⟨b,cap,rfl,hl,ht,hc,hv⟩
theorem lT.BK {id tot off:Nat}(r:lT G h (.vptr id tot off) V):∃b,V=.pointer (some ⟨b,off,none⟩)∧sV h id∧tot≤vP (G.cur id)∧(tot=vP (G.cur id)→∃cap0,G.cur id=.slice (some ⟨b,0,none⟩) tot cap0):=by
 cases r with
 | p _ _ hp=>cases hp
 | vptr _ _ _ b hl ht hv=>exact⟨b,rfl,hl,ht,hv⟩
theorem lT.sR {cs:List lC}(r:lT G h (.agg cs) V):∃C:Array Value,V=.agg C∧cs.length=C.size∧∀(i:Nat) (v:lC),cs[i]?=some v→lT G h v (C.getD i undef):=by
 cases r with
 | p _ _ hp=>cases hp with | agg cs C hl hh=>exact⟨C,rfl,hl,fun i v hv=>.p _ _ (hh i v hv)⟩
 | agg cs C hl hh=>exact⟨C,rfl,hl,hh⟩
theorem lT.zX {cs:List lC}(r:lT G h (.tuple cs) V):∃C:Array Value,V=.tuple C∧cs.length=C.size∧∀(i:Nat) (v:lC),cs[i]?=some v→lT G h v (C.getD i undef):=by
 cases r with
 | p _ _ hp=>cases hp with | tuple cs C hl hh=>exact⟨C,rfl,hl,fun i v hv=>.p _ _ (hh i v hv)⟩
 | tuple cs C hl hh=>exact⟨C,rfl,hl,hh⟩
theorem lT.Rl (r:lT G h (.tuple []) V):V=undef:=by
 obtain⟨C,rfl,hl,_⟩:=r.zX
 have:C=#[]:=Array.eq_empty_of_size_eq_zero hl.symm
 subst this;rfl
theorem lT.undef:lT G h (.tuple []) Go.undef:=.p _ _ (.tuple [] #[] rfl (by simp))
theorem lT.sF {id off:Nat}(r:lT G h (.ptr id off) V):V=.pointer (some ⟨G.mU id,off,none⟩)∧live h id:=by
 cases r with
 | p _ _ hp=>cases hp
 | ptr id off hl=>exact⟨rfl,hl⟩
theorem lT.Bl {cs:List lC}(r:lT G h (.pptr cs) V):oQ G.H (.pptr cs) V:=by
 cases r with | p _ _ hp=>exact hp
theorem lT.WL {n:String}{t:Nat}(r:lT G h (.meth n t) V):∃W C,V=.func (.method n) #[.iface t W] C:=by
 cases r with | p _ _ hp=>cases hp;exact⟨_,_,rfl⟩
theorem lT.uX {id off len sz:Nat}(r:lT G h (.mslice id off len sz) V) :
  ∃a cap,V=.slice a len cap∧len≤cap∧(0<len→a=some ⟨G.mU id,off,none⟩∧live h id):=by
 cases r with
 | p _ _ hp=>cases hp
 | mslice id off len sz cap hl hc=>exact⟨_,cap,rfl,hc,fun _=>⟨rfl,hl⟩⟩
 | mslice0 id off sz cap a=>exact⟨a,cap,rfl,Nat.zero_le _,fun hh=>absurd hh (by omega)⟩
theorem lT.A7 {f:Nat}{first cap:List lC}(r:lT G h (.func f first cap) V) :
  ∃F C:Array Value,V=.func (.func f) F C∧first.length=F.size∧cap.length=C.size ∧
   (∀(i:Nat) (v:lC),first[i]?=some v→lT G h v (F.getD i Go.undef))∧(∀(i:Nat) (v:lC),cap[i]?=some v→lT G h v (C.getD i Go.undef)):=by
 cases r with
 | p _ _ hp=>cases hp with | func f=>exact⟨#[],#[],rfl,rfl,rfl,by simp,by simp⟩
 | func f first cap F C hlf hlc hf hc=>exact⟨F,C,rfl,hlf,hlc,hf,hc⟩
theorem lT.wV {t:Nat}{v:lC}(r:lT G h (.iface t v) V):∃W,V=.iface t W∧lT G h v W:=by
 cases r with
 | p _ _ hp=>cases hp with | iface t v V hh=>exact⟨_,rfl,.p _ _ hh⟩
 | iface t v V hh=>exact⟨_,rfl,hh⟩
theorem lT.x7 {v:lC}(r:lT G h v V) (hk:v.mE=true):V.oneCell'=true∧V.cells=#[V]:=by
 cases r with
 | p _ _ hp=>cases hp <;> simp_all [lC.mE,Value.oneCell',Value.cells]
 | own _ _ _ _ _ hp=>cases hp <;> simp [Value.oneCell',Value.cells]
 | ownv _ _ hp=>cases hp <;> simp [Value.oneCell',Value.cells]
 | _=>simp_all [lC.mE,Value.oneCell',Value.cells]
theorem oQ.x7 {H:Nat→Nat→Option Value}{v:lC}(r:oQ H v V) (hk:v.mE=true):V.oneCell'=true∧V.cells=#[V]:=by
 cases r <;> simp_all [lC.mE,Value.oneCell',Value.cells]
end inv
theorem Cr (G:Gh) (h:lD) (v:Value):lT G h (Bh v) v:=by
 unfold Bh
 split
 ·exact .p _ _ (.bool _)
 ·exact .p _ _ (.int _ _)
 ·rename_i s
  have:(⟨s.data.toList.toArray⟩:ByteArray)=s:=by cases s;simp
  have r:=lT.p (G:=G) (h:=h) _ _ (oQ.str (H:=G.H) s.data.toList)
  rw [this] at r;exact r
 ·exact .p _ _ .nilptr
 ·exact .nil
 ·exact .p _ _ .nilmap
 ·exact .p _ _ .nilfunc
 ·exact .p _ _ .niliface
 ·exact .p _ _ (.junk _)
theorem rO (G:Gh) (h:lD) (v:Value):lT G h (ofConst v) v:=by
 unfold ofConst
 split
 ·rename_i cs
  refine .agg _ _ (by simp) fun i u hu=>?_
  simp only [af7,af1,al9] at hu
  obtain⟨x,hx,rfl⟩:=hu
  have:cs.getD i undef=x:=by rw [af2,hx];rfl
  rw [this]
  exact Cr G h x
 ·rename_i cs
  split
  ·rename_i hn
   have:cs=#[]:=by cases cs;simp_all
   subst this
   exact .p _ _ (.tuple [] #[] rfl (by simp))
  ·exact .p _ _ (.junk _)
 ·exact Cr G h v
def MZ (A:wC) (H:Nat→Nat→Option Value):Prop:=∀g cs,A.glob g=some cs→oQ H (.pptr cs) (.pointer (some ⟨g,0,none⟩))
theorem MZ.mono {A:wC}{H H':Nat→Nat→Option Value}(hh:∀b k v,H b k=some v→H' b k=some v) (g:MZ A H):MZ A H':=fun i cs hc=>(g i cs hc).mono hh
structure oU (A:wC) (G:Gh) (h:lD) (w:World):Prop where
 cells:MZ A G.H
 size:∀g n,A.gsz g=some n→(∀id,owner G h id≠some g)∧∃C e fr,w.heap[g]?=some (.cells C e fr)∧C.size=n
theorem oU.mono {A:wC}{G G':Gh}{h h':lD}{w w':World}(gl:oU A G h w) (x:Ext G h w G' h' w'):oU A G' h' w' :=
 ⟨gl.cells.mono x.hmono,fun g n hg=>by
  obtain⟨h1,C,e,fr,h2,h3⟩:=gl.size g n hg
  have hlt:g<w.heap.size:=(Array.getElem?_eq_some_iff.1 h2).1
  exact⟨fun id ho=>h1 id (x.own id g ho hlt),C,e,fr,by rw [(x.frame g hlt h1).1];exact h2,h3⟩⟩
theorem oU.sub {A:wC}{G G':Gh}{h h':lD}{w:World}(gl:oU A G h w) (hH:G'.H=G.H) (ho:∀id b,owner G' h' id=some b→∃id',owner G h id'=some b):oU A G' h' w :=
 ⟨by rw [hH];exact gl.cells,fun g n hg=>by
  obtain⟨h1,h2⟩:=gl.size g n hg
  exact⟨fun id hi=>by obtain⟨id',h3⟩:=ho id g hi;exact h1 id' h3,h2⟩⟩
structure nT (J:Act→Prop) (G:Gh) (h:lD) (ρ:List lC) (a:Act):Prop where
 len:ρ.length=a.tmps.size
 rel:∀(i:Nat) (v:lC),ρ[i]?=some v→lT G h v (a.tmps.getD i undef)
 df:J a
theorem nT.mono {J:Act→Prop}{G G':Gh}{h h':lD}{ρ:List lC}{a:Act}(s:nT J G h ρ a) (m:AT G h G' h'):nT J G' h' ρ a :=
 ⟨s.len,fun i v hv=>(s.rel i v hv).mono m,s.df⟩
theorem nT.get {J:Act→Prop}{G:Gh}{h:lD}{ρ:List lC}{a:Act}(s:nT J G h ρ a) (t:Nat):lT G h (ρ.getD t .junk) (a.tmps.getD t undef):=by
 rw [ae9]
 cases hv:ρ[t]? with
 | none=>exact .p _ _ (.junk _)
 | some v=>exact s.rel t v hv
theorem nT.eval {J:Act→Prop}{A:wC}{G:Gh}{h:lD}{ρ:List lC}{a:Act}(s:nT J G h ρ a) (gl:MZ A G.H) (x:Operand):lT G h (pP A ρ x) (a.eval x):=by
 cases x with
 | tmp t=>exact s.get t
 | const v=>exact rO G h v
 | global g =>
  simp only [pP]
  cases hg:A.glob g with
  | none=>exact .p _ _ (.junk _)
  | some cs=>exact .p _ _ (gl g cs hg)
 | func f=>exact .p _ _ (.func f)
theorem nT.put {J:Act→Prop}{G:Gh}{h:lD}{ρ:List lC}{a:Act}(s:nT J G h ρ a) (dst:Option Tmp) {v:lC}{V:Value}(r:lT G h v V) (hj:J (a.put dst V)):nT J G h (pI ρ dst v) (a.put dst V):=by
 cases dst with
 | none=>exact s
 | some d =>
  refine⟨by simp [pI,Act.put,s.len],fun i u hu=>?_,hj⟩
  simp only [pI,List.getElem?_set] at hu
  simp only [Act.put,af2,Array.getElem?_setIfInBounds]
  by_cases hdi:d=i
  ·subst hdi
   have hlt:d<ρ.length:=by
    by_cases hlt:d<ρ.length
    ·exact hlt
    ·simp [hlt] at hu
   simp only [hlt,if_true] at hu
   cases hu
   rw [s.len] at hlt
   simpa [hlt] using r
  ·simp only [hdi,if_false] at hu ⊢
   simpa [af2] using s.rel i u hu
theorem wR {G:Gh}{h:lD}{v:lC}{V:Value}(r:lT G h v V) (hk:v.cells.all lC.mE=true) :
  v.cells.length=V.cells.size∧∀(i:Nat) (u:lC),v.cells[i]?=some u→u.mE=true∧lT G h u (V.cells.getD i undef):=by
 by_cases ha:∃cs,v=.agg cs
 ·obtain⟨cs,rfl⟩:=ha
  obtain⟨C,rfl,hl,hr⟩:=r.sR
  simp only [lC.cells,Value.cells] at *
  exact⟨hl,fun i u hu=>⟨by simpa using am7.1 hk u (af3 hu),hr i u hu⟩⟩
 ·have hc:v.cells=[v]:=by cases v <;> simp_all [lC.cells]
  rw [hc] at hk ⊢
  have hk':v.mE=true:=by simpa using hk
  obtain⟨_,h2⟩:=r.x7 hk'
  rw [h2]
  refine⟨rfl,fun i u hu=>?_⟩
  cases i with
  | zero=>simp at hu;subst hu;exact⟨hk',by simpa using r⟩
  | succ i=>simp at hu
end
section
open Go Go.RowKit
section
variable {P:Program}{G:Gh}{h:lD}{w:World}{x y v:lC}{X Y:Value}
theorem wI (op:BinOp) (t:TypeId) (xo yo:Operand) (X Y:Value) (hx:(∀cs,X≠.agg cs)∧X≠.nilIface):(eqGuard op t xo yo X Y).run P w=.ok () w:=by
 obtain⟨h1,h2⟩:=hx
 cases op <;> cases X <;> first
  | (exact absurd rfl (h1 _);done)
  | (exact absurd rfl h2;done)
  | (unfold eqGuard;simp [Sem.run_pure];done)
  | (unfold eqGuard;simp [Sem.run_pure];split <;> simp_all [Sem.run_pure];done)
theorem nN {t:TypeId}{n:Nat}(hn:nQ P t=some n):(Go.sizeOf t).run P w=.ok n w:=by
 unfold nQ at hn
 cases hu:P.info? t with
 | none=>simp [hu] at hn
 | some ti=>simp [hu] at hn;simp [Go.sizeOf,Go.typeInfo,hu,hn]
theorem C1 {t:TypeId}{g:Bool}(hg:qE P t=some g):(isAgg t).run P w=.ok g w:=by
 unfold qE at hg
 cases hu:P.underlying t with
 | none=>simp [hu] at hg
 | some d=>cases d <;> simp_all [isAgg,run_underlying,Sem.run_pure]
theorem run_equalIn_bool {t:TypeId}(ht:P.underlying t=some .bool) (d:Nat) (a b:Bool):(Op.equalIn (d+1) t (.bool a) (.bool b)).run P w=.ok (a == b) w:=by
 simp only [Op.equalIn,Sem.run_bind,run_underlying ht,Result.andThen_ok,Sem.run_pure]
theorem GO {op:BinOp}(t:TypeId) (xo yo:Operand) (hb:lZ op x y=some v) (hx:lT G h x X) (hy:lT G h y Y) :
  ∃V,(do eqGuard op t xo yo X Y;binOp op t X Y:Sem Value).run P w=.ok V w∧lT G h v V:=by
 unfold lZ at hb
 split at hb
 ·rename_i k a k' b
  have:=hx.pB;subst this
  have:=hy.pB;subst this
  have hg:=wI (P:=P) (w:=w) op t xo yo (.int k a) (.int k' b) (by simp)
  simp only [Sem.run_bind,hg,Result.andThen_ok]
  cases op <;> (try simp only at hb) <;> (try split at hb) <;> (try simp only [ad0,reduceCtorEq] at hb)
  all_goals (try subst hb)
  all_goals (try (rename_i hk;simp only [ne_eq,Decidable.not_not] at hk;try subst hk))
  all_goals (try (split at hb))
  all_goals (try (cases hb;done))
  all_goals (try (simp only [ad0] at hb;subst hb))
  all_goals refine⟨_,?_,.p _ _ (by first | exact .int _ _ | exact .bool _)⟩
  all_goals (try simp_all [binOp,Op.intArith,Op.intCmp,Op.intDiv,Op.intBits,Op.shift,Sem.run_pure])
  all_goals (intro hlt;omega)
 ·rename_i a b
  have:=hx.vG;subst this
  have:=hy.vG;subst this
  have hg:=wI (P:=P) (w:=w) op t xo yo (.string ⟨a.toArray⟩) (.string ⟨b.toArray⟩) (by simp)
  simp only [Sem.run_bind,hg,Result.andThen_ok]
  cases op <;> simp only [reduceCtorEq] at hb <;> (try split at hb) <;> simp only [ad0,reduceCtorEq] at hb
  all_goals subst hb
  ·rename_i hl
   refine⟨.string (⟨a.toArray⟩++⟨b.toArray⟩),?_,?_⟩
   ·show(Op.stringOp .add _ _).run P w=_
    refine run_string_add_sum _ _ _ ?_
    show a.toArray.size+b.toArray.size≤_
    simp only [List.size_toArray];omega
   ·have:(⟨a.toArray⟩:ByteArray)++⟨b.toArray⟩=⟨(a++b).toArray⟩:=by
     apply ByteArray.ext;simp
    rw [this];exact .p _ _ (.str _)
  all_goals exact⟨_,by simp [binOp,Op.stringOp,Sem.run_pure],.p _ _ (.bool _)⟩
 ·cases hb
theorem M8 {op:BinOp}{t:TypeId}(ht:P.underlying t=some .bool) (xo yo:Operand) (hb:M7 op x y=some v) (hx:lT G h x X) (hy:lT G h y Y) :
  ∃V,(do eqGuard op t xo yo X Y;binOp op t X Y:Sem Value).run P w=.ok V w∧lT G h v V:=by
 unfold M7 at hb
 split at hb
 all_goals first | (cases hb;done) | skip
 all_goals
  rename_i a b
  have:=hx.uE;subst this
  have:=hy.uE;subst this
  simp only [ad0] at hb;subst hb
  refine⟨_,?_,.p _ _ (.bool _)⟩
  have he:=run_equalIn_bool (P:=P) (w:=w) ht 9999 a b
  simp only [Sem.run_bind,wI (P:=P) (w:=w) _ t xo yo (.bool a) (.bool b) (by simp),Result.andThen_ok]
  simp only [binOp,Sem.run_bind,Op.equal,Op.maxDepth,he,Result.andThen_ok,Sem.run_pure]
theorem F6 {t e:TypeId}(ht:P.underlying t=some (.pointer e)) (d:Nat) (a:Option Addr):(Op.equalIn (d+1) t (.pointer a) (.pointer none)).run P w=.ok a.isNone w:=by
 cases a <;> simp only [Op.equalIn,Sem.run_bind,run_underlying ht,Result.andThen_ok,Sem.run_pure] <;> rfl
theorem M9 {op:BinOp}{t e:TypeId}(ht:P.underlying t=some (.pointer e)) (xo yo:Operand) (hb:UW op x y=some v) (hx:lT G h x X) (hy:lT G h y Y) :
  ∃V,(do eqGuard op t xo yo X Y;binOp op t X Y:Sem Value).run P w=.ok V w∧lT G h v V:=by
 have key:∀b,G5 x=some b→∃a,X=.pointer a∧a.isNone=b:=by
  intro b hb
  cases hx with
  | p v V hp =>
   cases hp <;> simp only [G5,ad0,reduceCtorEq] at hb <;> subst hb <;> exact⟨_,rfl,rfl⟩
  | ptr id off hl=>simp only [G5,ad0] at hb;subst hb;exact⟨_,rfl,rfl⟩
  | vptr id tot off b hl _ hv=>simp only [G5,ad0] at hb;subst hb;exact⟨_,rfl,rfl⟩
  | _=>simp [G5] at hb
 unfold UW at hb
 split at hb
 all_goals first | (cases hb;done) | skip
 all_goals
  have hY:Y=.pointer none:=by
   cases hy with
   | p v V hp=>cases hp;rfl
  subst hY
  obtain⟨b,h1,h2⟩:=af1.1 hb
  obtain⟨a,rfl,ha⟩:=key b h1
  subst ha;subst h2
  refine⟨_,?_,.p _ _ (.bool _)⟩
  have he:=F6 (P:=P) (w:=w) ht 9999 a
  simp only [Sem.run_bind,wI (P:=P) (w:=w) _ t xo yo (.pointer a) (.pointer none) (by simp),Result.andThen_ok]
  simp only [binOp,Sem.run_bind,Op.equal,Op.maxDepth,he,Result.andThen_ok,Sem.run_pure]
theorem Td {op:UnOp}(hb:xX op x=some v) (hx:lT G h x X):∃V,(Op.unary op X).run P w=.ok V w∧lT G h v V:=by
 unfold xX at hb
 split at hb
 all_goals first | (cases hb;done) | skip
 all_goals simp only [ad0] at hb;subst hb
 ·have:=hx.pB;subst this
  exact⟨_,by simp [Op.unary,Op.intArith,Sem.run_pure],.p _ _ (.int _ _)⟩
 ·have:=hx.pB;subst this
  exact⟨_,by simp [Op.unary,Op.intBits,Sem.run_pure],.p _ _ (.int _ _)⟩
 ·have:=hx.uE;subst this
  exact⟨_,by simp [Op.unary,Sem.run_pure],.p _ _ (.bool _)⟩
theorem GP {s d:TypeId}{k k0:IntKind}(hs:P.underlying s=some (.int k0)) (hd:P.underlying d=some (.int k)) (hb:AW k x=some v) (hx:lT G h x X) :
  ∃V,(convert s d X).run P w=.ok V w∧lT G h v V:=by
 unfold AW at hb
 split at hb <;> simp only [ad0,reduceCtorEq] at hb
 subst hb
 have:=hx.pB;subst this
 exact⟨_,by simp [convert,run_underlying hs,run_underlying hd,Conv.intToInt,Sem.run_pure],.p _ _ (.int _ _)⟩
theorem Nq {c a b:lC}{C A B:Value}(hb:mJ c a b=some v) (hc:lT G h c C) (ha:lT G h a A) (hbb:lT G h b B) :
  ∃V,((do pure (.value (if ←asBool C then A else B))):Sem Next).run P w=.ok (.value V) w∧lT G h v V:=by
 unfold mJ at hb
 split at hb <;> simp only [ad0,reduceCtorEq] at hb
 rename_i g
 subst hb
 have:=hc.uE;subst this
 refine⟨bif g then A else B,?_,by cases g <;> assumption⟩
 cases g <;> simp [asBool,Sem.run_pure]
theorem GR {i:Nat}(hb:nI i x=some v) (hx:lT G h x X):∃V,(Instr.extract X i).run P w=.ok V w∧lT G h v V:=by
 unfold nI at hb
 split at hb
 ·obtain⟨C,rfl,hl,hr⟩:=hx.zX
  have hlt:i<C.size:=by rw [←hl];exact(ac1.1 hb).1
  refine⟨C.getD i undef,?_,hr i v hb⟩
  simp [Instr.extract,Array.getElem?_eq_getElem hlt,Sem.run_pure]
 ·cases hb
theorem xU {g:Bool}{n off:Nat}{cs:List lC}{C:Array Value}{t:TypeId}(hg:qE P t=some g) (hn:nQ P t=some n)
  (hb:apart g n cs off=some v) (hl:cs.length=C.size) (hr:∀(i:Nat) (u:lC),cs[i]?=some u→lT G h u (C.getD i undef)) :
  ∃V,(part t C off).run P w=.ok V w∧lT G h v V:=by
 have hagg:=C1 (w:=w) hg
 have hsz:=nN (w:=w) hn
 unfold apart at hb
 cases g with
 | true =>
  simp only [cond_true] at hb
  split at hb <;> simp only [ad0,reduceCtorEq] at hb
  rename_i hle
  subst hb
  refine⟨.agg (C.extract off (off+n)),?_,.agg _ _ ?_ ?_⟩
  ·simp [part,hagg,hsz]
  ·simp;omega
  ·intro i u hu
   have hi:i<n:=by
    have:=(ac1.1 hu).1
    simp at this;omega
   rw [ao0,if_pos hi,am5] at hu
   have:=hr _ _ hu
   have hsz2:off+i<C.size:=by omega
   rw [af2] at this ⊢
   rw [Array.getElem?_extract,if_pos (by omega)]
   exact this
 | false =>
  simp only [cond_false] at hb
  have hlt:off<C.size:=by rw [←hl];exact(ac1.1 hb).1
  exact⟨C.getD off undef,by simp [part,hagg,Array.getElem?_eq_getElem hlt,Sem.run_pure],hr off v hb⟩
end
end
section
open Go Go.RowKit
section
variable {P:Program}{G:Gh}{h:lD}{w:World}{x y v:lC}{X Y:Value}
theorem KG {t ft:TypeId}{fs:Array Field}{f:Nat}{fd:Field}{g:Bool}{n:Nat}(ht:P.underlying t=some (.struct fs)) (hf:fs[f]?=some fd)
  (hg:qE P fd.type=some g) (hn:nQ P fd.type=some n) (hb:AX g n fd.offset x=some v) (hx:lT G h x X) :
  ∃V,(Instr.field t X f).run P w=.ok V w∧lT G h v V:=by
 unfold AX at hb
 split at hb
 ·obtain⟨C,rfl,hl,hr⟩:=hx.sR
  obtain⟨V,h1,h2⟩:=xU (w:=w) hg hn hb hl hr
  exact⟨V,by simp [Instr.field,run_underlying ht,hf,asAgg,h1,Sem.run_pure],h2⟩
 ·cases hb
theorem FW {t:TypeId}(ht:P.underlying t=some .string) (hb:sS x y=some v) (hx:lT G h x X) (hy:lT G h y Y) :
  ∃V,(Instr.index t X Y).run P w=.ok V w∧lT G h v V:=by
 unfold sS at hb
 split at hb
 ·rename_i s k n
  split at hb
  ·rename_i h0
   have:=hx.vG;subst this
   have:=hy.pB;subst this
   cases hs:s[n.toNat]? with
   | none=>simp [hs] at hb
   | some b =>
    simp [hs] at hb;subst hb
    refine⟨_,?_,.p _ _ (.int _ _)⟩
    have hget:(⟨s.toArray⟩:ByteArray)[n.toNat]?=some b:=by
     have hlt:n.toNat<s.length:=(ac1.1 hs).1
     have hb2:s[n.toNat]=b:=(ac1.1 hs).2
     have hsz:n.toNat<(⟨s.toArray⟩:ByteArray).size:=by show n.toNat<s.toArray.size;simpa using hlt
     rw [getElem?_pos (c:=(⟨s.toArray⟩:ByteArray)) (i:=n.toNat) hsz]
     rw [←hb2];rfl
    simp [Instr.index,asIntOf,run_underlying ht,h0,hget,Sem.run_pure]
  ·cases hb
 ·cases hb
theorem FU {t e:TypeId}{len sz:Nat}{g:Bool}(ht:P.underlying t=some (.array len e)) (hg:qE P e=some g) (hn:nQ P e=some sz)
  (hb:Er g len sz x y=some v) (hx:lT G h x X) (hy:lT G h y Y):∃V,(Instr.index t X Y).run P w=.ok V w∧lT G h v V:=by
 unfold Er at hb
 split at hb
 ·rename_i cs k n
  split at hb
  ·rename_i h0
   obtain⟨C,rfl,hl,hr⟩:=hx.sR
   have:=hy.pB;subst this
   obtain⟨V,h1,h2⟩:=xU (w:=w) hg hn hb hl hr
   exact⟨V,by simp [Instr.index,asIntOf,run_underlying ht,h0,nN hn,h1,Sem.run_pure],h2⟩
  ·cases hb
 ·cases hb
theorem Fs {b:Option lC}{B:Option Value}{dflt y0 n:Nat}{code:BoundsCode}(hb:pE b dflt=some n) (hle:n≤y0)
  (hr:∀u,b=some u→∃U,B=some U∧lT G h u U) (hnone:b=none→B=none) :
  (match B with | some U=>Instr.sliceBound U y0 code | none=>(pure dflt:Sem Nat)).run P w=.ok n w:=by
 unfold pE at hb
 cases b with
 | none=>rw [hnone rfl];simp at hb;subst hb;simp [Sem.run_pure]
 | some u =>
  obtain⟨U,rfl,hU⟩:=hr u rfl
  cases u <;> simp at hb
  rename_i k m
  obtain⟨h0,rfl⟩:=hb
  have:=hU.pB;subst this
  have:(0:Int)≤m∧m≤(y0:Int):=⟨h0,by omega⟩
  simp [Instr.sliceBound,asIntOf,this,Sem.run_pure]
theorem rT {isS:Bool}{lo hi:Option lC}{LO HI:Option Value}{len cap l u:Nat}(hlo:pE lo 0=some l) (hhi:pE hi len=some u) (hlu:l≤u) (hlen:len≤cap) (huc:u≤cap)
  (hrl:∀a,lo=some a→∃U,LO=some U∧lT G h a U) (hnl:lo=none→LO=none) (hrh:∀a,hi=some a→∃U,HI=some U∧lT G h a U) (hnh:hi=none→HI=none) :
  (Instr.sliceBounds isS len cap LO HI none).run P w=.ok (l,u,cap) w:=by
 have h1:=Fs (P:=P) (w:=w) (code:=if isS then .sliceAcap else .sliceAlen) hhi huc hrh hnh
 have h2:=Fs (P:=P) (w:=w) (code:=.sliceB) hlo hlu hrl hnl
 unfold Instr.sliceBounds
 cases HI with
 | none =>
  simp only [Sem.run_pure,Result.ok.injEq,and_true] at h1;subst h1
  cases LO with
  | none=>simp only [Sem.run_pure,Result.ok.injEq,and_true] at h2;subst h2;simp [Sem.run_pure]
  | some L=>simp only [] at h2;simp [h2,Sem.run_pure]
 | some Hh =>
  simp only [] at h1
  cases LO with
  | none=>simp only [Sem.run_pure,Result.ok.injEq,and_true] at h2;subst h2;simp [h1,Sem.run_pure]
  | some L=>simp only [] at h2;simp [h1,h2,Sem.run_pure]
theorem W5 {f:Operand→lC}{F:Operand→Value}(hf:∀o,lT G h (f o) (F o)) (o:Option Operand) :
  (∀a,o.map f=some a→∃U,o.map F=some U∧lT G h a U)∧(o.map f=none→o.map F=none):=by
 cases o with
 | none=>simp
 | some o=>exact⟨fun a ha=>⟨F o,rfl,by simp at ha;subst ha;exact hf o⟩,by simp⟩
section slices
variable {lo hi:Option lC}{LO HI:Option Value}
 (hrl:∀a,lo=some a→∃U,LO=some U∧lT G h a U) (hnl:lo=none→LO=none) (hrh:∀a,hi=some a→∃U,HI=some U∧lT G h a U) (hnh:hi=none→HI=none)
include hrl hnl hrh hnh
theorem FY {t:TypeId}(ht:P.underlying t=some .string) (hb:rW x lo hi=some v) (hx:lT G h x X) :
  ∃V,(Instr.sliceAt t X LO HI none).run P w=.ok V w∧lT G h v V:=by
 unfold rW at hb
 split at hb
 ·rename_i s
  have:=hx.vG;subst this
  split at hb
  ·rename_i l u hl hu
   split at hb <;> simp only [ad0,reduceCtorEq] at hb
   rename_i hlu
   subst hb
   have hsz:(⟨s.toArray⟩:ByteArray).size=s.length:=by show s.toArray.size=_;simp
   have hr:=rT (P:=P) (w:=w) (isS:=false) (len:=s.length) (cap:=s.length) hl hu hlu.1 (ai1 _) hlu.2 hrl hnl hrh hnh
   refine⟨.string ((⟨s.toArray⟩:ByteArray).extract l u),?_,?_⟩
   ·simp [Instr.sliceAt,run_underlying ht,Instr.slice,hsz,hr,Sem.run_pure]
   ·have:(⟨s.toArray⟩:ByteArray).extract l u=⟨((s.drop l).take (u-l)).toArray⟩:=by
     apply ByteArray.ext
     simp [ByteArray.data_extract]
    rw [this];exact .p _ _ (.str _)
  ·cases hb
 ·cases hb
theorem FX {t e:TypeId}{len sz:Nat}(ht:P.underlying t=some (.array len e)) (hn:nQ P e=some sz) (hb:Ew len sz x lo hi=some v) (hx:lT G h x X) :
  ∃V,(Instr.sliceAt t X LO HI none).run P w=.ok V w∧lT G h v V:=by
 have hadd:∀b off k,Addr.add ⟨b,off,none⟩ k=⟨b,off+k,none⟩:=by
  intro b off k;unfold Addr.add;split <;> simp_all
 unfold Ew at hb
 split at hb
 ·rename_i id off
  split at hb <;> simp only [ad0,reduceCtorEq] at hb
  rename_i hlen
  subst hb
  obtain⟨rfl,hl⟩:=hx.sF
  have h1:=hnl rfl
  have h2:=hnh rfl
  subst h1;subst h2
  refine⟨.slice (some ⟨G.mU id,off,none⟩) len len,?_,.mslice _ _ _ _ _ hl (ai1 _)⟩
  simp [Instr.sliceAt,run_underlying ht,Instr.sureAddr,Instr.sliceBounds,nN hn,Sem.run_pure,hadd]
 ·cases hb
theorem G6 {t e:TypeId}{sz:Nat}(ht:P.underlying t=some (.slice e)) (hn:nQ P e=some sz) (hb:oI sz x lo hi=some v) (hx:lT G h x X) :
  ∃V,(Instr.sliceAt t X LO HI none).run P w=.ok V w∧lT G h v V:=by
 unfold oI at hb
 split at hb
 ·rename_i rows tok
  have hp:=hx.rH
  split at hb
  ·rename_i l u hl hu
   split at hb <;> simp only [ad0,reduceCtorEq] at hb
   rename_i hlu
   obtain⟨hlu1,hlu2,hall⟩:=hlu
   subst hb
   cases hp with
   | slice0 a cap =>
    simp only [List.length_nil,Nat.le_zero_eq] at hlu2
    subst hlu2
    have hl0:l=0:=by omega
    subst hl0
    have hr:=rT (P:=P) (w:=w) (isS:=true) (len:=0) (cap:=cap) hl hu hlu1 (Nat.zero_le _) (Nat.zero_le _) hrl hnl hrh hnh
    refine⟨.slice (if cap=0 then a else a.map (·.add (0*sz))) 0 cap,?_,.p _ _ (by simp only [List.drop_nil,List.take_nil];exact .slice0 _ _)⟩
    simp [Instr.sliceAt,run_underlying ht,Instr.slice,nN hn,hr,Sem.run_pure]
   | slice rows b off cap sz' V hr0 hc hH hk hV =>
    have hr:=rT (P:=P) (w:=w) (isS:=true) (len:=rows.length) (cap:=cap) hl hu hlu1 hc (by omega) hrl hnl hrh hnh
    refine⟨.slice (if cap=l then some ⟨b,off,none⟩ else some (Addr.add ⟨b,off,none⟩ (l*sz))) (u-l) (cap-l),?_,?_⟩
    ·simp [Instr.sliceAt,run_underlying ht,Instr.slice,nN hn,hr,Sem.run_pure]
    ·have hlen:((rows.drop l).take (u-l)).length=u-l:=by simp;omega
     by_cases h0:u-l=0
     ·have:(rows.drop l).take (u-l)=[]:=by rw [h0];simp
      rw [this,h0];exact .p _ _ (.slice0 _ _)
     ·have hcl:¬cap=l:=by omega
      have hszz:sz'=sz:=by
       have hm:rows[l]?=some rows[l]:=ac6 (by omega)
       have h1:=hr0 rows[l] (af3 hm)
       have h2:=am7.1 hall rows[l] (af3 hm)
       simp at h2;omega
      subst hszz
      rw [if_neg hcl]
      have hadd:Addr.add ⟨b,off,none⟩ (l*sz')=⟨b,off+l*sz',none⟩:=by
       unfold Addr.add;split <;> simp_all
      rw [hadd]
      have hget:∀i (row:List lC),((rows.drop l).take (u-l))[i]?=some row→rows[l+i]?=some row:=by
       intro i row hi
       rw [ao0] at hi
       split at hi
       ·rwa [am5] at hi
       ·cases hi
      have hmem:∀r∈(rows.drop l).take (u-l),r.length=sz':=fun r hrm=>hr0 r (List.mem_of_mem_drop (List.mem_of_mem_take hrm))
      generalize (rows.drop l).take (u-l)=R at hlen hget hmem
      rw [←hlen]
      refine .p _ _ (.slice R b (off+l*sz') (cap-l) sz' (fun k=>V (l*sz'+k)) hmem (by rw [hlen];omega) ?_ ?_ ?_)
      ·intro i j row v h1 h2
       have:=hH (l+i) j row v (hget i row h1) h2
       rw [show off+l*sz'+(i*sz'+j)=off+((l+i)*sz'+j) by rw [Nat.add_mul];omega,this]
       congr 2;rw [Nat.add_mul];omega
      ·intro i j row v h1 h2;exact hk (l+i) j row v (hget i row h1) h2
      ·intro i j row v h1 h2
       have:=hV (l+i) j row v (hget i row h1) h2
       rw [show l*sz'+(i*sz'+j)=(l+i)*sz'+j by rw [Nat.add_mul];omega];exact this
  ·cases hb
 ·rename_i id off len sz'
  obtain⟨a,cap,rfl,hlc,ha⟩:=hx.uX
  split at hb
  ·rename_i l u hl hu
   split at hb <;> simp only [ad0,reduceCtorEq] at hb
   rename_i hlu
   obtain⟨hlu1,hlu2,rfl⟩:=hlu
   subst hb
   have hr:=rT (P:=P) (w:=w) (isS:=true) (len:=len) (cap:=cap) hl hu hlu1 hlc (by omega) hrl hnl hrh hnh
   refine⟨.slice (if cap=l then a else a.map (·.add (l*sz'))) (u-l) (cap-l),?_,?_⟩
   ·simp [Instr.sliceAt,run_underlying ht,Instr.slice,nN hn,hr,Sem.run_pure]
   ·by_cases h0:u-l=0
    ·rw [h0];exact .mslice0 _ _ _ _ _
    ·obtain⟨rfl,hlv⟩:=ha (by omega)
     rw [if_neg (by omega)]
     have hadd:Addr.add ⟨G.mU id,off,none⟩ (l*sz')=⟨G.mU id,off+l*sz',none⟩:=by
      unfold Addr.add;split <;> simp_all
     simp only [Option.map_some,hadd]
     exact .mslice id _ _ sz' _ hlv (by omega)
  ·cases hb
 ·rename_i id tot off len sz'
  obtain⟨b,cap,rfl,hnf,htot,hlc,hv⟩:=hx.pY
  split at hb
  ·rename_i l u hl hu
   split at hb
   case isFalse=>cases hb
   rename_i hlu
   obtain⟨hlu1,hlu2,rfl⟩:=hlu
   have hr:=rT (P:=P) (w:=w) (isS:=true) (len:=len) (cap:=cap) hl hu hlu1 hlc (by omega) hrl hnl hrh hnh
   have hrun:(Instr.sliceAt t (.slice (some ⟨b,off,none⟩) len cap) LO HI none).run P w=.ok (.slice (if cap=l then some ⟨b,off,none⟩ else(some (Addr.mk b off none)).map (·.add (l*sz'))) (u-l) (cap-l)) w:=by
    simp [Instr.sliceAt,run_underlying ht,Instr.slice,nN hn,hr,Sem.run_pure]
   have hadd:Addr.add ⟨b,off,none⟩ (l*sz')=⟨b,off+l*sz',none⟩:=by
    unfold Addr.add;split <;> simp_all
   split at hb <;> simp only [ad0] at hb <;> subst hb
   ·rename_i hor
    refine⟨_,hrun,?_⟩
    have haddr:(if cap=l then some (Addr.mk b off none) else(some (Addr.mk b off none)).map (·.add (l*sz')))=some ⟨b,off+l*sz',none⟩:=by
     split
     ·have:l=0:=by omega
      subst this;simp
     ·simp only [Option.map_some,hadd]
    rw [haddr]
    refine .vslice id tot _ _ sz' b _ hnf htot (by omega) fun e=>?_
    obtain⟨l0,cap0,h1,h2,h3,h4⟩:=hv e
    exact⟨l0+l,cap0,h1,by rw [h2,Nat.add_mul],by omega,by omega⟩
   ·rename_i hor
    have h0:u-l=0:=by omega
    refine⟨_,hrun,?_⟩
    rw [h0];exact .p _ _ (.slice0 _ _)
  ·cases hb
 ·cases hb
end slices
theorem I0 {t:TypeId}{ty:TypeId}(ht:P.underlying t=some .string) (hb:F9 x=some v) (hx:lT G h x X) :
  ∃V,(Builtin.len_ #[t] ty #[X]).run P w=.ok V w∧lT G h v V:=by
 unfold F9 at hb
 split at hb <;> simp only [ad0,reduceCtorEq] at hb
 subst hb
 rename_i s
 have:=hx.vG;subst this
 refine⟨.int .i64 s.length,?_,.p _ _ (.int _ _)⟩
 have hsz:(⟨s.toArray⟩:ByteArray).size=s.length:=by show s.toArray.size=_;simp
 simp [Builtin.len_,run_underlying ht,goInt,hsz,Sem.run_pure]
theorem KJ {t:TypeId}{ty e:TypeId}(ht:P.underlying t=some (.slice e)) (hb:mP x=some v) (hx:lT G h x X) :
  ∃V,(Builtin.len_ #[t] ty #[X]).run P w=.ok V w∧lT G h v V:=by
 unfold mP at hb
 split at hb <;> simp only [ad0,reduceCtorEq] at hb <;> subst hb
 ·rename_i rows tok
  have hp:=hx.rH
  refine⟨.int .i64 rows.length,?_,.p _ _ (.int _ _)⟩
  cases hp <;> simp [Builtin.len_,run_underlying ht,goInt,Sem.run_pure]
 ·rename_i id off len sz
  obtain⟨a,cap,rfl,_⟩:=hx.uX
  exact⟨.int .i64 len,by simp [Builtin.len_,run_underlying ht,goInt,Sem.run_pure],.p _ _ (.int _ _)⟩
 ·rename_i id tot off len sz
  obtain⟨a,cap,rfl,_⟩:=hx.pY
  exact⟨.int .i64 len,by simp [Builtin.len_,run_underlying ht,goInt,Sem.run_pure],.p _ _ (.int _ _)⟩
theorem Fl (hb:Dj x y=some v) (hx:lT G h x X) (hy:lT G h y Y):∃V,(Builtin.max2 X Y).run P w=.ok V w∧lT G h v V:=by
 unfold Dj at hb
 split at hb <;> simp only [ad0,reduceCtorEq] at hb
 subst hb
 have:=hx.pB;subst this
 have:=hy.pB;subst this
 exact⟨_,by simp [Builtin.max2,Sem.run_pure],.p _ _ (.int _ _)⟩
theorem Fp (hb:Ck x y=some v) (hx:lT G h x X) (hy:lT G h y Y):∃V,(Builtin.min2 X Y).run P w=.ok V w∧lT G h v V:=by
 unfold Ck at hb
 split at hb <;> simp only [ad0,reduceCtorEq] at hb
 subst hb
 have:=hx.pB;subst this
 have:=hy.pB;subst this
 exact⟨_,by simp [Builtin.min2,Sem.run_pure],.p _ _ (.int _ _)⟩
theorem Fq:∀{l:List lC}{L:List Value}{x v:lC}{X:Value},Nl x l=some v→lT G h x X→l.length=L.length→(∀(j:Nat) (u:lC) (U:Value),l[j]?=some u→L[j]?=some U→lT G h u U) →
  ∃V,(L.foldlM Builtin.min2 X).run P w=.ok V w∧lT G h v V
 | [],[],x,v,X,hb,hx,_,_=>by
  simp only [Nl,ad0] at hb
  subst hb
  exact⟨X,rfl,hx⟩
 | [],_::_,_,_,_,_,_,hl,_=>by simp at hl
 | _::_,[],_,_,_,_,_,hl,_=>by simp at hl
 | y::r,Y::R,x,v,X,hb,hx,hl,hr=>by
  simp only [Nl] at hb
  obtain⟨z,hz,hb⟩:=ab6.1 hb
  obtain⟨Z,e1,e2⟩:=Fp (P:=P) (w:=w) hz hx (hr 0 y Y rfl rfl)
  obtain⟨V,e3,e4⟩:=Fq (L:=R) hb e2 (by simpa using hl) fun j u U hu hU=>hr (j+1) u U hu hU
  exact⟨V,by simp only [List.foldlM_cons,Sem.run_bind,e1,Result.andThen_ok,e3],e4⟩
theorem Fo:∀{l:List lC}{L:List Value}{x v:lC}{X:Value},Nk x l=some v→lT G h x X→l.length=L.length→(∀(j:Nat) (u:lC) (U:Value),l[j]?=some u→L[j]?=some U→lT G h u U) →
  ∃V,(L.foldlM Builtin.max2 X).run P w=.ok V w∧lT G h v V
 | [],[],x,v,X,hb,hx,_,_=>by
  simp only [Nk,ad0] at hb
  subst hb
  exact⟨X,rfl,hx⟩
 | [],_::_,_,_,_,_,_,hl,_=>by simp at hl
 | _::_,[],_,_,_,_,_,hl,_=>by simp at hl
 | y::r,Y::R,x,v,X,hb,hx,hl,hr=>by
  simp only [Nk] at hb
  obtain⟨z,hz,hb⟩:=ab6.1 hb
  obtain⟨Z,e1,e2⟩:=Fl (P:=P) (w:=w) hz hx (hr 0 y Y rfl rfl)
  obtain⟨V,e3,e4⟩:=Fo (L:=R) hb e2 (by simpa using hl) fun j u U hu hU=>hr (j+1) u U hu hU
  exact⟨V,by simp only [List.foldlM_cons,Sem.run_bind,e1,Result.andThen_ok,e3],e4⟩
theorem GS {t:TypeId}{fs:Array Field}{f:Nat}{fd:Field}{n:Nat}(ht:P.underlying t=some (.struct fs)) (hf:fs[f]?=some fd)
  (hn:nQ P fd.type=some (n+1)) (hb:lO fd.offset x=some v) (hx:lT G h x X) :
  ∃V,(Instr.fieldAt t X f).run P w=.ok V w∧lT G h v V:=by
 have run:∀b off,(Instr.fieldAt t (.pointer (some ⟨b,off,none⟩)) f).run P w=.ok (.pointer (some (Addr.add ⟨b,off,none⟩ fd.offset))) w:=by
  intro b off
  simp [Instr.fieldAt,run_underlying ht,hf,Instr.sureAddr,fieldPlace,nN hn,Sem.run_pure]
 have hadd:∀b off,Addr.add ⟨b,off,none⟩ fd.offset=⟨b,off+fd.offset,none⟩:=by
  intro b off;unfold Addr.add;split <;> simp_all
 unfold lO at hb
 split at hb <;> simp only [ad0,reduceCtorEq] at hb <;> subst hb
 ·rename_i id o
  obtain⟨rfl,hl⟩:=hx.sF
  exact⟨_,run _ _,by rw [hadd];exact .ptr _ _ hl⟩
 ·rename_i id tot o
  obtain⟨b,rfl,h1,h2,h3⟩:=hx.BK
  exact⟨_,run _ _,by rw [hadd];exact .vptr _ _ _ b h1 h2 h3⟩
 ·rename_i cs
  have hp:=hx.Bl
  cases hp with
  | pptr cs b off V hH hk hV =>
   refine⟨_,run _ _,.p _ _ ?_⟩
   rw [hadd]
   refine .pptr _ b (off+fd.offset) (fun j=>V (fd.offset+j)) ?_ ?_ ?_
   ·intro j v hj;rw [am5] at hj;have:=hH _ v hj;rw [←this];congr 1;omega
   ·intro j v hj;rw [am5] at hj;exact hk _ v hj
   ·intro j v hj;rw [am5] at hj;exact hV _ v hj
theorem GZ {t e:TypeId}{sz:Nat}(ht:P.underlying t=some (.slice e)) (hn:nQ P e=some sz) (hb:lU sz x y=some v) (hx:lT G h x X) (hy:lT G h y Y) :
  ∃V,(Instr.indexAt t X Y).run P w=.ok V w∧lT G h v V:=by
 have hadd:∀b off k,Addr.add ⟨b,off,none⟩ k=⟨b,off+k,none⟩:=by
  intro b off k;unfold Addr.add;split <;> simp_all
 unfold lU at hb
 split at hb
 ·rename_i rows tok k n
  have:=hy.pB;subst this
  split at hb
  ·rename_i h0
   split at hb
   ·rename_i row hrow
    split at hb <;> simp only [ad0,reduceCtorEq] at hb
    rename_i hlen
    subst hb
    have hp:=hx.rH
    have hlt:n.toNat<rows.length:=(ac1.1 hrow).1
    cases hp with
    | slice0 a cap=>simp at hlt
    | slice rows b off cap sz' V hr hc hH hk hV =>
     have:sz'=sz:=by rw [←hr row (af3 hrow),hlen]
     subst this
     have hcond:(0:Int)≤n∧n<(rows.length:Int):=⟨h0,by omega⟩
     refine⟨.pointer (some (Addr.add ⟨b,off,none⟩ (n.toNat*sz'))),?_,.p _ _ ?_⟩
     ·simp [Instr.indexAt,asIntOf,run_underlying ht,hcond,nN hn,Sem.run_pure]
     ·rw [hadd]
      refine .pptr _ b _ (fun j=>V (n.toNat*sz'+j)) ?_ ?_ ?_
      ·intro j v hj;rw [←hH _ j row v hrow hj];congr 1;omega
      ·intro j v hj;exact hk _ j row v hrow hj
      ·intro j v hj;exact hV _ j row v hrow hj
   ·cases hb
  ·cases hb
 ·rename_i id off len sz' k n
  have:=hy.pB;subst this
  split at hb <;> simp only [ad0,reduceCtorEq] at hb
  rename_i hc
  obtain⟨h0,hlt,rfl⟩:=hc
  subst hb
  obtain⟨a,cap,rfl,hlc,ha⟩:=hx.uX
  obtain⟨rfl,hlv⟩:=ha (by omega)
  refine⟨.pointer (some (Addr.add ⟨G.mU id,off,none⟩ (n.toNat*sz'))),?_,?_⟩
  ·simp [Instr.indexAt,asIntOf,run_underlying ht,h0,hlt,nN hn,Sem.run_pure]
  ·rw [hadd];exact .ptr _ _ hlv
 ·rename_i id tot off len sz' k n
  have:=hy.pB;subst this
  split at hb <;> simp only [ad0,reduceCtorEq] at hb
  rename_i hc
  obtain⟨h0,hlt,rfl⟩:=hc
  subst hb
  obtain⟨b,cap,rfl,hnf,htot,hlc,hv⟩:=hx.pY
  refine⟨.pointer (some (Addr.add ⟨b,off,none⟩ (n.toNat*sz'))),?_,?_⟩
  ·simp [Instr.indexAt,asIntOf,run_underlying ht,h0,hlt,nN hn,Sem.run_pure]
  ·rw [hadd]
   refine .vptr _ _ _ b hnf htot fun e=>?_
   obtain⟨l0,cap0,h1,_⟩:=hv e
   exact⟨cap0,h1⟩
 ·cases hb
theorem GY {t e:TypeId}{len sz:Nat}(ht:P.underlying t=some (.array len e)) (hn:nQ P e=some sz) (hb:w7 len sz x y=some v) (hx:lT G h x X) (hy:lT G h y Y) :
  ∃V,(Instr.indexAt t X Y).run P w=.ok V w∧lT G h v V:=by
 have hadd:∀b off k,Addr.add ⟨b,off,none⟩ k=⟨b,off+k,none⟩:=by
  intro b off k;unfold Addr.add;split <;> simp_all
 unfold w7 at hb
 split at hb
 ·rename_i id off k n
  have:=hy.pB;subst this
  split at hb <;> simp only [ad0,reduceCtorEq] at hb
  rename_i hc
  subst hb
  obtain⟨rfl,hl⟩:=hx.sF
  refine⟨.pointer (some (Addr.add ⟨G.mU id,off,none⟩ (n.toNat*sz))),?_,?_⟩
  ·simp [Instr.indexAt,asIntOf,run_underlying ht,Instr.sureAddr,hc,nN hn,Sem.run_pure]
  ·rw [hadd];exact .ptr _ _ hl
 ·rename_i cs k n
  have:=hy.pB;subst this
  split at hb <;> simp only [ad0,reduceCtorEq] at hb
  rename_i hc
  subst hb
  have hp:=hx.Bl
  cases hp with
  | pptr cs b off V hH hk hV =>
   refine⟨.pointer (some (Addr.add ⟨b,off,none⟩ (n.toNat*sz))),?_,.p _ _ ?_⟩
   ·simp [Instr.indexAt,asIntOf,run_underlying ht,Instr.sureAddr,hc,nN hn,Sem.run_pure]
   ·rw [hadd]
    refine .pptr _ b _ (fun j=>V (n.toNat*sz+j)) ?_ ?_ ?_
    ·intro j v hj;rw [am5] at hj;rw [←hH _ v hj];congr 1;omega
    ·intro j v hj;rw [am5] at hj;exact hk _ v hj
    ·intro j v hj;rw [am5] at hj;exact hV _ v hj
 ·cases hb
end
end
section
open Go Go.RowKit
theorem Ci:∀{k1 k2:List Kd}{x y:List lC}{b:Bool},oH (k1++k2) x y=some b →
  ∃p q,oH k1 (x.take k1.length) (y.take k1.length)=some p∧oH k2 (x.drop k1.length) (y.drop k1.length)=some q∧b=(p&&q)
 | [],k2,x,y,b,h=>⟨true,b,by simp [oH],by simpa using h,by simp⟩
 | k::k1,k2,[],y,b,h=>by simp [oH] at h
 | k::k1,k2,_::_,[],b,h=>by simp [oH] at h
 | k::k1,k2,x::xs,y::ys,b,h=>by
  simp only [List.cons_append,oH] at h
  split at h <;> simp only [ad0,reduceCtorEq] at h
  rename_i u v hu hv
  obtain⟨p,q,h1,h2,h3⟩:=Ci hv
  exact⟨u&&p,q,by simp [oH,hu,h1],by simpa using h2,by rw [←h,h3,Bool.and_assoc]⟩
theorem GQ:∀{ks:List Kd}{x y:List lC}{b:Bool},oH ks x y=some b→x.length=ks.length∧y.length=ks.length
 | [],[],[],_,_=>⟨rfl,rfl⟩
 | [],_::_,_,_,h=>by simp [oH] at h
 | [],[],_::_,_,h=>by simp [oH] at h
 | _::_,[],_,_,h=>by simp [oH] at h
 | _::_,_::_,[],_,h=>by simp [oH] at h
 | k::ks,x::xs,y::ys,b,h=>by
  simp only [oH] at h
  split at h <;> simp only [ad0,reduceCtorEq] at h
  rename_i u v hu hv
  obtain⟨h1,h2⟩:=GQ hv
  simp [h1,h2]
def Rep (G:Gh) (h:lD) (g:Bool) (cx:List lC) (X:Value):Prop :=
 match g with
 | true=>∃C:Array Value,X=.agg C∧cx.length=C.size∧∀(i:Nat) (v:lC),cx[i]?=some v→lT G h v (C.getD i undef)
 | false=>∃c,cx=[c]∧lT G h c X
section
variable {P:Program}{G:Gh}{h:lD}{w:World}{x y v:lC}{X Y:Value}
theorem N6 {t:TypeId}{g:Bool}{n off:Nat}{cx:List lC}{C:Array Value}(hg:qE P t=some g) (hn:nQ P t=some n) (h1:g=false→n=1)
  (hl:cx.length=C.size) (hr:∀(i:Nat) (v:lC),cx[i]?=some v→lT G h v (C.getD i undef)) (hle:off+n≤cx.length) :
  ∃V,(part t C off).run P w=.ok V w∧Rep G h g ((cx.drop off).take n) V:=by
 cases g with
 | true =>
  obtain⟨V,e1,e2⟩:=xU (P:=P) (w:=w) (off:=off) (v:=.agg ((cx.drop off).take n)) hg hn (by simp [apart,hle]) hl hr
  exact⟨V,e1,e2.sR⟩
 | false =>
  have:=h1 rfl;subst this
  have hlt:off<cx.length:=by omega
  obtain⟨V,e1,e2⟩:=xU (P:=P) (w:=w) (off:=off) (v:=cx[off]) hg hn (by simp [apart,hlt]) hl hr
  exact⟨V,e1,cx[off],by rw [List.drop_eq_getElem_cons hlt,List.take_succ_cons,List.take_zero],e2⟩
theorem A4 (P:Program) (G:Gh) (h:lD) (w:World) (d D:Nat)
  (ih:∀(t:TypeId) (ks:List Kd) (g:Bool) (cx cy:List lC) (X Y:Value) (b:Bool),uF P d t=some ks→qE P t=some g→oH ks cx cy=some b →
   Rep G h g cx X→Rep G h g cy Y→(Op.equalIn D t X Y).run P w=.ok b w)
  {cx cy:List lC}{C E:Array Value}(hlx:cx.length=C.size) (hrx:∀(i:Nat) (v:lC),cx[i]?=some v→lT G h v (C.getD i undef))
  (hly:cy.length=E.size) (hry:∀(i:Nat) (v:lC),cy[i]?=some v→lT G h v (E.getD i undef)) :
  ∀(fs:List Field) (off:Nat) (ks:List Kd) (b:Bool),yZ P (uF P d) fs off=some ks→oH ks (cx.drop off) (cy.drop off)=some b →
   (Op.eqFields D C E fs).run P w=.ok b w
 | [],off,ks,b,hk,hb=>by
  simp only [yZ,ad0] at hk;subst hk
  have:b=true:=by
   generalize cx.drop off=a at hb;generalize cy.drop off=c at hb
   cases a <;> cases c <;> simp_all [oH]
  subst this
  simp [Op.eqFields,Sem.run_pure]
 | f::fs,off,ks,b,hk,hb=>by
  simp only [yZ] at hk
  cases hnm:(f.name == "_" || f.offset != off) with
  | true=>simp [hnm] at hk
  | false =>
   simp only [hnm,cond_false] at hk
   simp only [Bool.or_eq_false_iff,beq_eq_false_iff_ne,bne_eq_false_iff_eq] at hnm
   obtain⟨hname,hoff⟩:=hnm
   split at hk
   ·rename_i k1 hk1
    cases hsz:(nQ P f.type == some k1.length&&k1.length != 0) with
    | false=>simp [hsz] at hk
    | true =>
     simp only [hsz,cond_true] at hk
     simp only [Bool.and_eq_true,beq_iff_eq,bne_iff_ne,ne_eq] at hsz
     obtain⟨hsz,hne⟩:=hsz
     split at hk <;> simp only [ad0,reduceCtorEq] at hk
     rename_i k2 hk2
     subst hk
     obtain⟨p,q,e1,e2,rfl⟩:=Ci hb
     obtain⟨l1,l2⟩:=GQ e1
     obtain⟨g,hg⟩:∃g,qE P f.type=some g:=by
      unfold qE
      cases d with
      | zero=>simp [uF] at hk1
      | succ d =>
       simp only [uF] at hk1
       cases hu:P.underlying f.type with
       | none=>simp [hu] at hk1
       | some dd=>cases dd <;> simp
     have h1:g=false→k1.length=1:=by
      intro hgf;subst hgf
      cases d with
      | zero=>simp [uF] at hk1
      | succ d =>
       simp only [uF] at hk1
       unfold qE at hg
       cases hu:P.underlying f.type with
       | none=>simp [hu] at hk1
       | some dd=>cases dd <;> simp_all <;> subst hk1 <;> rfl
     have lx:off+k1.length≤cx.length:=by rw [ao3,List.length_drop] at l1;omega
     have ly:off+k1.length≤cy.length:=by rw [ao3,List.length_drop] at l2;omega
     obtain⟨V1,p1,r1⟩:=N6 (w:=w) (off:=off) hg hsz h1 hlx hrx lx
     obtain⟨V2,p2,r2⟩:=N6 (w:=w) (off:=off) hg hsz h1 hly hry ly
     have he:=ih f.type k1 g _ _ V1 V2 p hk1 hg e1 r1 r2
     have hrest:=A4 P G h w d D ih hlx hrx hly hry fs (off+k1.length) k2 q hk2 (by simpa [List.drop_drop] using e2)
     simp only [Op.eqFields,hoff,ne_eq,hname,not_false_eq_true,if_true,Sem.run_bind,p1,p2,he,Result.andThen_ok,Sem.run_ite]
     cases p <;> simp [Sem.run_pure,hrest]
   ·cases hk
theorem Cm (P:Program) (G:Gh) (h:lD) (w:World):∀(d D:Nat),d≤D→∀(t:TypeId) (ks:List Kd) (g:Bool) (cx cy:List lC) (X Y:Value) (b:Bool),
  uF P d t=some ks→qE P t=some g→oH ks cx cy=some b→Rep G h g cx X→Rep G h g cy Y→(Op.equalIn D t X Y).run P w=.ok b w
 | 0,_,_,_,_,_,_,_,_,_,_,hk,_,_,_,_=>by simp [uF] at hk
 | d+1,0,hd,_,_,_,_,_,_,_,_,_,_,_,_,_=>by omega
 | d+1,D+1,hd,t,ks,g,cx,cy,X,Y,b,hk,hg,hb,hx,hy=>by
  simp only [uF] at hk
  have scal:g=false→∀k,ks=[k]→∃c c',cx=[c]∧cy=[c']∧lT G h c X∧lT G h c' Y∧xP k c c'=some b:=by
   intro hgf k hks;subst hgf;subst hks
   obtain⟨c,rfl,hc⟩:=hx
   obtain⟨c',rfl,hc'⟩:=hy
   refine⟨c,c',rfl,rfl,hc,hc',?_⟩
   simp only [oH] at hb
   split at hb <;> simp_all
  split at hk
  ·rename_i hu
   have hgf:g=false:=by simpa [qE,hu] using hg.symm
   obtain⟨c,c',rfl,rfl,hc,hc',he⟩:=scal hgf .b (by simpa using hk.symm)
   unfold xP at he
   split at he <;> simp_all
   have:=hc.uE;subst this
   have:=hc'.uE;subst this
   rw [run_equalIn_bool hu D];simp_all
  ·rename_i k0 hu
   have hgf:g=false:=by simpa [qE,hu] using hg.symm
   obtain⟨c,c',rfl,rfl,hc,hc',he⟩:=scal hgf .i (by simpa using hk.symm)
   unfold xP at he
   split at he
   ·rename_i k a k' a'
    split at he <;> simp only [ad0,reduceCtorEq] at he
    rename_i hkk;subst hkk;subst he
    have:=hc.pB;subst this
    have:=hc'.pB;subst this
    exact run_equalIn_int w D t _ _ _ _ hu
   ·simp_all
   ·simp_all
   ·cases he
  ·rename_i hu
   have hgf:g=false:=by simpa [qE,hu] using hg.symm
   obtain⟨c,c',rfl,rfl,hc,hc',he⟩:=scal hgf .s (by simpa using hk.symm)
   cases c <;> cases c' <;> simp only [xP,ad0,reduceCtorEq] at he
   rename_i a a'
   subst he
   have:=hc.vG;subst this
   have:=hc'.vG;subst this
   have:=run_equalIn_string (P:=P) w D t ⟨a.toArray⟩ ⟨a'.toArray⟩ hu
   simpa using this
  ·rename_i fs hu
   have hgt:g=true:=by simpa [qE,hu] using hg.symm
   subst hgt
   cases hst:P.stoodInHeld t with
   | true=>simp [hst] at hk
   | false =>
    simp only [hst,cond_false] at hk
    obtain⟨C,rfl,hlx,hrx⟩:=hx
    obtain⟨E,rfl,hly,hry⟩:=hy
    have hfo:P.fieldsOf t=fs:=by simp [Program.fieldsOf,hu]
    rw [run_equalIn_struct w D t C E (by rw [hfo];exact hu) hst,hfo]
    exact A4 P G h w d D (fun t ks g cx cy X Y b=>Cm P G h w d D (by omega) t ks g cx cy X Y b) hlx hrx hly hry fs.toList 0 ks b hk (by simpa using hb)
  ·cases hk
theorem Fx {t:TypeId}{ks:List Kd}{b:Bool}{fs:Array Field}(ht:P.underlying t=some (.struct fs)) (hk:Dp P t=some ks) (xo yo:Operand)
  (hb:pK ks x y=some b) (hx:lT G h x X) (hy:lT G h y Y) :
  (do eqGuard .eql t xo yo X Y;binOp .eql t X Y:Sem Value).run P w=.ok (.bool b) w∧(do eqGuard .neq t xo yo X Y;binOp .neq t X Y:Sem Value).run P w=.ok (.bool (!b)) w:=by
 unfold Dp at hk
 split at hk
 ·rename_i ks' hks
  cases hm:P.eqGuardType P.depth t with
  | true=>simp [hm] at hk
  | false =>
   simp only [hm,cond_false,ad0] at hk;subst hk
   unfold pK at hb
   split at hb
   ·obtain⟨C,rfl,hlx,hrx⟩:=hx.sR
    obtain⟨E,rfl,hly,hry⟩:=hy.sR
    have he:=Cm P G h w 12 10000 (by omega) t ks' true _ _ (.agg C) (.agg E) b hks (by simp [qE,ht]) hb ⟨C,rfl,hlx,hrx⟩ ⟨E,rfl,hly,hry⟩
    constructor
    ·simp only [Sem.run_bind,run_eqGuard_agg w .eql t xo yo C E hm,Result.andThen_ok,run_eql_struct,he]
    ·simp only [Sem.run_bind,run_eqGuard_agg w .neq t xo yo C E hm,Result.andThen_ok,run_neq_struct,he]
   ·cases hb
 ·cases hk
end
end
section
open Go Go.RowKit
def mL (G:Gh) (id:Nat):mC→Option Nat
 | .cells _ | .map _ | .tcells _ _=>some (G.mU id)
 | .front _ _ _ | .vec _ _ _=>(G.cur id).ownBlock
 | _=>none
theorem mZ {G:Gh}{h:lD}{id:Nat}{bl:mC}(hb:h[id]?=some bl):owner G h id=mL G id bl:=by
 unfold owner;rw [hb];cases bl <;> rfl
theorem oN {G:Gh}{h:lD}{id b:Nat}(ho:owner G h id=some b):∃bl,h[id]?=some bl∧mL G id bl=some b:=by
 cases hb:h[id]? with
 | none=>simp [owner,hb] at ho
 | some bl=>exact⟨bl,rfl,by rw [←mZ hb];exact ho⟩
theorem v_.lt {G:Gh}{h:lD}{w:World}{id b:Nat}{bl:mC}(hk:v_ G h w id bl) (ho:mL G id bl=some b):b<w.heap.size:=by
 have aux:∀{o:Obj},w.heap[b]?=some o→b<w.heap.size:=fun h=>(Array.getElem?_eq_some_iff.1 h).1
 cases bl with
 | free=>cases ho
 | gone=>cases ho
 | cells cs=>obtain⟨C,e,h1,_⟩:=hk;cases ho;exact aux h1
 | tcells t cs=>obtain⟨C,h1,_⟩:=hk;cases ho;exact aux h1
 | map es=>obtain⟨E,c,h1,_⟩:=hk;cases ho;exact aux h1
 | front n sz t =>
  rcases hk with ⟨_,h1⟩ | ⟨b',cap,C,e,h1,h2,_⟩
  ·simp [mL,h1,Value.ownBlock] at ho
  ·simp [mL,h1,Value.ownBlock] at ho;subst ho;exact aux h2
 | vec tot sz cs =>
  obtain⟨b',cap,C,e,h1,h2,_⟩:=hk
  simp [mL,h1,Value.ownBlock] at ho;subst ho;exact aux h2
theorem Inv.lt {G:Gh}{h:lD}{w:World}(i:Inv G h w) {id b:Nat}(ho:owner G h id=some b):b<w.heap.size:=by
 obtain⟨bl,hb,hob⟩:=oN ho
 exact(i.mU id bl hb).lt hob
theorem v_.EM {G G':Gh}{h h':lD}{w w':World}{id:Nat}{bl:mC}(m:AT G h G' h') (hblk:G'.mU id=G.mU id) (hcur:G'.cur id=G.cur id)
  (hh:∀b,mL G id bl=some b→w'.heap[b]?=w.heap[b]?∧∀k,G'.H b k=G.H b k) (hk:v_ G h w id bl):v_ G' h' w' id bl:=by
 cases bl with
 | free=>trivial
 | gone=>trivial
 | cells cs =>
  obtain⟨C,e,h1,h2,h3,h4⟩:=hk
  obtain⟨e1,e2⟩:=hh _ rfl
  exact⟨C,e,by rw [hblk,e1,h1],h2,fun k=>by rw [hblk,e2,h3],fun i v hv=>⟨(h4 i v hv).1,(h4 i v hv).2.mono m⟩⟩
 | tcells t cs =>
  obtain⟨C,h1,h2,h3,h4⟩:=hk
  obtain⟨e1,e2⟩:=hh _ rfl
  exact⟨C,by rw [hblk,e1,h1],h2,fun k=>by rw [hblk,e2,h3],fun i v hv=>⟨(h4 i v hv).1,(h4 i v hv).2.mono m⟩⟩
 | map es =>
  obtain⟨E,c,h1,h2,h3,h4,h5⟩:=hk
  obtain⟨e1,e2⟩:=hh _ rfl
  refine⟨E,c,by rw [hblk,e1,h1],h2,fun k=>by rw [hblk,e2,h3],fun i kv hv=>?_,h5⟩
  obtain⟨mm,a1,a2,a3,a4⟩:=h4 i kv hv
  exact⟨mm,a1,a2,a3.mono m.hmono,a4.mono m⟩
 | front n sz t =>
  rcases hk with ⟨h0,h1⟩ | ⟨b,cap,C,e,h1,h2,h3,h4,h5,h50,h6,h7⟩
  ·exact .inl ⟨h0,by rw [hcur,h1]⟩
  ·obtain⟨e1,e2⟩:=hh b (by simp [mL,h1,Value.ownBlock])
   exact .inr ⟨b,cap,C,e,by rw [hcur,h1],by rw [e1,h2],h3,h4,h5,h50,fun k hk=>by rw [e2,h6 k hk],h7⟩
 | vec tot sz cs =>
  obtain⟨b,cap,C,e,h1,h2,h3,h4,h5,h6,h7,h8,h9⟩:=hk
  obtain⟨e1,e2⟩:=hh b (by simp [mL,h1,Value.ownBlock])
  exact⟨b,cap,C,e,by rw [hcur,h1],by rw [e1,h2],h3,h4,h5,h6,h7,fun k=>by rw [e2,h8 k],fun i v hv=>⟨(h9 i v hv).1,(h9 i v hv).2.mono m⟩⟩
theorem Inv.push {G G':Gh}{h:lD}{ext:List mC}{w w':World}(i:Inv G h w)
  (os:w'.os=w.os) (tape:w'.tape=w.tape) (output:w'.output=w.output) (size:w.heap.size≤w'.heap.size)
  (heap:∀k,k<w.heap.size→w'.heap[k]?=w.heap[k]?)
  (gblk:∀id,id<h.length→G'.mU id=G.mU id) (gcur:∀id,id<h.length→G'.cur id=G.cur id)
  (hH:∀b k v,G.H b k=some v→G'.H b k=some v) (hHold:∀b k,b<w.heap.size→G'.H b k=G.H b k)
  (hok:∀b k v,w.heap.size≤b→G'.H b k=some v→w'.cell? ⟨b,k,none⟩=some v)
  (hnew:∀j bl,ext[j]?=some bl→AT G h G' (h++ext)→v_ G' (h++ext) w' (h.length+j) bl)
  (hown:∀j bl b,ext[j]?=some bl→mL G' (h.length+j) bl=some b→w.heap.size≤b)
  (hinj:∀j j' bl bl' b,ext[j]?=some bl→ext[j']?=some bl'→mL G' (h.length+j) bl=some b→mL G' (h.length+j') bl'=some b→j=j') :
  Inv G' (h++ext) w'∧Ext G h w G' (h++ext) w':=by
 have m:AT G h G' (h++ext):=⟨hH,fun id bl hb=>by
  have hlt:id<h.length:=(ac1.1 hb).1
  refine⟨bl,by rw [am3 hlt];exact hb,?_⟩
  have e1:=gblk id hlt
  have e2:=gcur id hlt
  cases bl <;> simp [Kind,e1,e2]⟩
 have hget:∀id bl,(h++ext)[id]?=some bl→(id<h.length∧h[id]?=some bl)∨(h.length≤id∧ext[id-h.length]?=some bl):=by
  intro id bl hb
  by_cases hlt:id<h.length
  ·rw [am3 hlt] at hb;exact .inl ⟨hlt,hb⟩
  ·rw [af4 (by omega)] at hb;exact .inr ⟨by omega,hb⟩
 have own:∀id b,owner G' (h++ext) id=some b→(id<h.length∧owner G h id=some b)∨(h.length≤id∧w.heap.size≤b∧∃bl,ext[id-h.length]?=some bl∧mL G' id bl=some b):=by
  intro id b ho
  obtain⟨bl,hb,hob⟩:=oN ho
  rcases hget id bl hb with ⟨hlt,h1⟩ | ⟨hge,h1⟩
  ·refine .inl ⟨hlt,?_⟩
   rw [mZ h1]
   cases bl <;> simp_all [mL]
  ·have he:h.length+(id-h.length)=id:=by omega
   exact .inr ⟨hge,hown _ bl b h1 (by rw [he];exact hob),bl,h1,hob⟩
 refine⟨⟨?_,?_,?_⟩,⟨os,tape,output,size,fun b hb _=>⟨heap b hb,fun k=>hHold b k hb⟩,hH,?_,m.kinds⟩⟩
 ·intro b k v hv
  by_cases hb:b<w.heap.size
  ·rw [hHold b k hb] at hv
   rw [World.cell?_of_block (w:=w) (heap b hb)]
   exact i.ok b k v hv
  ·exact hok b k v (by omega) hv
 ·intro id bl hb
  rcases hget id bl hb with ⟨hlt,h1⟩ | ⟨hge,h1⟩
  ·refine(i.mU id bl h1).EM m (gblk id hlt) (gcur id hlt) fun b ho=>?_
   have hb:=(i.mU id bl h1).lt ho
   exact⟨heap b hb,fun k=>hHold b k hb⟩
  ·have:=hnew (id-h.length) bl h1 m
   rwa [show h.length+(id-h.length)=id by omega] at this
 ·intro x y b hx hy
  rcases own x b hx with ⟨_,h1⟩ | ⟨hx1,hx2,bl,hx3,hx4⟩ <;> rcases own y b hy with ⟨_,h2⟩ | ⟨hy1,hy2,bl',hy3,hy4⟩
  ·exact i.inj x y b h1 h2
  ·have:=i.lt h1;omega
  ·have:=i.lt h2;omega
  ·have:=hinj (x-h.length) (y-h.length) bl bl' b hx3 hy3 (by rw [show h.length+(x-h.length)=x by omega];exact hx4) (by rw [show h.length+(y-h.length)=y by omega];exact hy4)
   omega
 ·intro id b ho hb
  rcases own id b ho with ⟨_,h1⟩ | ⟨_,h2,_⟩
  ·exact h1
  ·omega
theorem Inv.step {G G':Gh}{h:lD}{w w':World}(i:Inv G h w) (id:Nat) (old new:mC) (hold:h[id]?=some old)
  (os:w'.os=w.os) (tape:w'.tape=w.tape) (output:w'.output=w.output) (size:w.heap.size≤w'.heap.size)
  (heap:∀k,k<w.heap.size→mL G id old≠some k→w'.heap[k]?=w.heap[k]?)
  (gblk:∀j,j≠id→G'.mU j=G.mU j) (gcur:∀j,j≠id→G'.cur j=G.cur j)
  (hH:∀b k v,G.H b k=some v→G'.H b k=some v) (hHold:∀b k,b<w.heap.size→mL G id old≠some b→G'.H b k=G.H b k)
  (hok:∀b k v,(w.heap.size≤b∨mL G id old=some b)→G'.H b k=some v→w'.cell? ⟨b,k,none⟩=some v)
  (hkind:Kind G G' id old new)
  (hnew:AT G h G' (h.set id new)→v_ G' (h.set id new) w' id new)
  (hown:∀b,mL G' id new=some b→w.heap.size≤b∨mL G id old=some b) :
  Inv G' (h.set id new) w'∧Ext G h w G' (h.set id new) w':=by
 have hlt:id<h.length:=(ac1.1 hold).1
 have hsame:(h.set id new)[id]?=some new:=by simp [hlt]
 have hne:∀j,j≠id→(h.set id new)[j]?=h[j]?:=fun j hj=>List.getElem?_set_ne (Ne.symm hj)
 have m:AT G h G' (h.set id new):=⟨hH,fun j bl hb=>by
  by_cases hj:j=id
  ·subst hj;rw [hold] at hb;cases hb;exact⟨new,hsame,hkind⟩
  ·refine⟨bl,by rw [hne j hj];exact hb,?_⟩
   have e1:=gblk j hj
   have e2:=gcur j hj
   cases bl <;> simp [Kind,e1,e2]⟩
 have own:∀j b,owner G' (h.set id new) j=some b→(j≠id∧owner G h j=some b)∨(j=id∧(w.heap.size≤b∨owner G h id=some b)):=by
  intro j b ho
  by_cases hj:j=id
  ·subst hj
   rw [mZ hsame] at ho
   exact .inr ⟨rfl,by rw [mZ hold];exact hown b ho⟩
  ·refine .inl ⟨hj,?_⟩
   obtain⟨bl,hb,hob⟩:=oN ho
   rw [hne j hj] at hb
   rw [mZ hb]
   have e1:=gblk j hj
   have e2:=gcur j hj
   cases bl <;> simp_all [mL]
 refine⟨⟨?_,?_,?_⟩,⟨os,tape,output,size,fun b hb hn=>?_,hH,?_,m.kinds⟩⟩
 ·intro b k v hv
  by_cases hb:b<w.heap.size∧mL G id old≠some b
  ·rw [hHold b k hb.1 hb.2] at hv
   rw [World.cell?_of_block (w:=w) (heap b hb.1 hb.2)]
   exact i.ok b k v hv
  ·refine hok b k v ?_ hv
   by_cases h1:w.heap.size≤b
   ·exact .inl h1
   ·exact .inr (Classical.byContradiction fun h2=>hb ⟨by omega,h2⟩)
 ·intro j bl hb
  by_cases hj:j=id
  ·subst hj;rw [hsame] at hb;cases hb;exact hnew m
  ·rw [hne j hj] at hb
   refine(i.mU j bl hb).EM m (gblk j hj) (gcur j hj) fun b ho=>?_
   have h1:=(i.mU j bl hb).lt ho
   have h2:mL G id old≠some b:=fun e=>hj (i.inj j id b (by rw [mZ hb];exact ho) (by rw [mZ hold];exact e))
   exact⟨heap b h1 h2,fun k=>hHold b k h1 h2⟩
 ·intro x y b hx hy
  rcases own x b hx with ⟨hx1,h1⟩ | ⟨rfl,h1⟩ <;> rcases own y b hy with ⟨hy1,h2⟩ | ⟨rfl,h2⟩
  ·exact i.inj x y b h1 h2
  ·rcases h2 with h2 | h2
   ·have:=i.lt h1;omega
   ·exact i.inj x y b h1 h2
  ·rcases h1 with h1 | h1
   ·have:=i.lt h2;omega
   ·exact i.inj x y b h1 h2
  ·rfl
 ·have:mL G id old≠some b:=fun e=>hn id (by rw [mZ hold];exact e)
  exact⟨heap b hb this,fun k=>hHold b k hb this⟩
 ·intro j b ho hb
  rcases own j b ho with ⟨_,h1⟩ | ⟨rfl,h1 | h1⟩
  ·exact h1
  ·omega
  ·exact h1
end
section
open Go Go.RowKit
theorem add_plain (b off k:Nat):Addr.add ⟨b,off,none⟩ k=⟨b,off+k,none⟩:=by unfold Addr.add;split <;> simp_all
theorem qX {h:lD}{id tot:Nat}{x:Nat×List lC}(hg:nV h id tot=some x):h[id]?=some (.vec tot x.1 x.2):=by
 unfold nV at hg
 split at hg
 ·rename_i tot' sz cs hid
  split at hg
  ·rename_i he;cases hg;rw [hid,he]
  ·cases hg
 ·cases hg
theorem Fy {h:lD}{id:Nat}{cs:List lC}(hg:nW h id=some cs):h[id]?=some (.cells cs):=by
 unfold nW at hg
 split at hg <;> simp_all
section
variable {P:Program}{G:Gh}{h:lD}{w:World}{x y v:lC}{X Y V:Value}
theorem cell_of (w:World) (g i:Nat) {C:Array Value}{t:TypeId}{fr:Nat×Nat}(hg:w.heap[g]?=some (.cells C t fr)):w.cell? ⟨g,i,none⟩=C[i]?:=by
 simp [World.cell?,hg]
theorem wP {t:TypeId}{g:Bool}{n:Nat}(hg:qE P t=some g) (hn:nQ P t=some n) (b o:Nat) (cs:List lC) (off:Nat) (F:Nat→Value)
  (hb:apart g n cs off=some v) (hc:∀(j:Nat) (u:lC),cs[j]?=some u→off≤j→w.cell? ⟨b,o+(j-off),none⟩=some (F j)∧lT G h u (F j)) :
  ∃V,(loadVar t ⟨b,o,none⟩).run P w=.ok V w∧lT G h v V:=by
 unfold apart at hb
 cases g with
 | true =>
  simp only [cond_true] at hb
  split at hb <;> simp only [ad0,reduceCtorEq] at hb
  rename_i hle
  subst hb
  have hl:=run_loadCells (P:=P) w ⟨b,o,none⟩ n (fun j=>F (off+j)) (fun j hj=>by
   have hj':cs[off+j]?=some cs[off+j]:=ac6 (by omega)
   have:=(hc (off+j) _ hj' (by omega)).1
   rw [add_plain]
   rwa [show off+j-off=j by omega] at this)
  refine⟨.agg ((aq5 n).map fun j=>F (off+j)).toArray,?_,.agg _ _ ?_ ?_⟩
  ·simp [loadVar,C1 hg,nN hn,hl,Sem.run_pure]
  ·simp;omega
  ·intro i u hu
   rw [ao0] at hu
   split at hu
   ·rename_i hi
    rw [am5] at hu
    have:=(hc (off+i) u hu (by omega)).2
    simpa [af2,hi] using this
   ·cases hu
 | false =>
  simp only [cond_false] at hb
  obtain⟨h1,h2⟩:=hc off v hb (ai1 _)
  refine⟨F off,?_,h2⟩
  rw [Nat.sub_self,as3] at h1
  simp [loadVar,C1 hg,run_load,h1]
theorem xT {t:TypeId}{g:Bool}{n:Nat}(hg:qE P t=some g) (hn:nQ P t=some n) (i:Inv G h w) (hb:lP g n h x=some v) (hx:lT G h x X) :
  ∃V,(Instr.loadAt t X).run P w=.ok V w∧lT G h v V:=by
 unfold lP at hb
 split at hb
 ·rename_i cs
  have hp:=hx.Bl
  cases hp with
  | pptr cs b off F hH hk hV =>
   obtain⟨V,h1,h2⟩:=wP (P:=P) (G:=G) (h:=h) (w:=w) hg hn b off cs 0 F hb (fun j u hu _=>⟨i.ok _ _ _ (hH j u hu),.p _ _ (hV j u hu)⟩)
   exact⟨V,by simp [Instr.loadAt,Instr.sureAddr,h1],h2⟩
 ·rename_i id off
  split at hb
  ·rename_i cs hgb
   unfold nW at hgb
   split at hgb <;> simp only [ad0,reduceCtorEq] at hgb
   rename_i cs' hid
   subst hgb
   obtain⟨rfl,_⟩:=hx.sF
   obtain⟨C,e,h1,h2,h3,h4⟩:=i.mU id _ hid
   obtain⟨V,r1,r2⟩:=wP (P:=P) (G:=G) (h:=h) (w:=w) hg hn (G.mU id) off cs' off (fun j=>C.getD j undef) hb (fun j u hu hj=>by
    have hlt:j<C.size:=by rw [h2];exact(ac1.1 hu).1
    refine⟨?_,(h4 j u hu).2⟩
    rw [cell_of w _ _ h1,show off+(j-off)=j by omega,Array.getElem?_eq_getElem hlt]
    simp [af2,hlt])
   exact⟨V,by simp [Instr.loadAt,Instr.sureAddr,r1],r2⟩
  ·cases hb
 ·rename_i id tot off
  split at hb
  ·rename_i x hgb
   have hid:=qX hgb
   obtain⟨tot,hX,h1,h2,h3⟩:=hx.BK
   obtain⟨b,cap,C,e,g1,g2,g3,g4,g5,g6,g7,g8,g9⟩:=i.mU id _ hid
   obtain⟨cap0,h4⟩:=h3 (by rw [g1];rfl)
   rw [g1] at h4
   simp only [Value.slice.injEq,ad0,Addr.mk.injEq] at h4
   obtain⟨⟨rfl,_⟩,_,rfl⟩:=h4
   subst hX
   obtain⟨V,r1,r2⟩:=wP (P:=P) (G:=G) (h:=h) (w:=w) hg hn b off x.2 off (fun j=>C.getD j undef) hb (fun j u hu hj=>by
    have hlt:j<C.size:=by
     have:=(ac1.1 hu).1
     rw [g5]
     exact Nat.lt_of_lt_of_le (by rw [g7] at this;exact this) (ao9 _ g3)
    refine⟨?_,(g9 j u hu).2⟩
    rw [cell_of w _ _ g2,show off+(j-off)=j by omega,Array.getElem?_eq_getElem hlt]
    simp [af2,hlt])
   exact⟨V,by simp [Instr.loadAt,Instr.sureAddr,r1],r2⟩
  ·cases hb
 ·cases hb
theorem qF (cs vs:List lC) (off:Nat) (h:off+vs.length≤cs.length):(putCells cs off vs).length=cs.length:=by
 simp [putCells];omega
theorem sC (cs vs:List lC) (off i:Nat) (h:off+vs.length≤cs.length) :
  (putCells cs off vs)[i]?=if i<off then cs[i]? else if i<off+vs.length then vs[i-off]? else cs[i]?:=by
 unfold putCells
 by_cases h1:i<off
 ·rw [if_pos h1,List.append_assoc,am3 (by simp;omega),ao0,if_pos h1]
 ·rw [if_neg h1,List.append_assoc,af4 (by simp;omega)]
  simp only [ao3]
  rw [Nat.min_eq_left (by omega)]
  by_cases h2:i<off+vs.length
  ·rw [if_pos h2,am3 (by omega)]
  ·rw [if_neg h2,af4 (by omega),am5]
   congr 1;omega
theorem qT (C:Array Value) (U:List Value) (off i:Nat) (h:off+U.length≤C.size) :
  (C.toList.take off++U++C.toList.drop (off+U.length)).toArray[i]?=if i<off then C[i]? else if i<off+U.length then U[i-off]? else C[i]?:=by
 rw [List.getElem?_toArray]
 by_cases h1:i<off
 ·rw [if_pos h1,List.append_assoc,am3 (by simp;omega),ao0,if_pos h1,al9]
 ·rw [if_neg h1,List.append_assoc,af4 (by simp;omega)]
  simp only [ao3,Array.length_toList]
  rw [Nat.min_eq_left (by omega)]
  by_cases h2:i<off+U.length
  ·rw [if_pos h2,am3 (by omega)]
  ·rw [if_neg h2,af4 (by omega),am5,al9]
   congr 1;omega
theorem Inv.write (i:Inv G h w) {id off:Nat}{cs vs:List lC}{C:Array Value}{e:TypeId}{U:List Value}(hid:h[id]?=some (.cells cs))
  (hC:w.heap[G.mU id]?=some (.cells C e (0,0))) (hle:off+vs.length≤cs.length) (hU:U.length=vs.length)
  (hrel:∀(j:Nat) (u:lC),vs[j]?=some u→u.mE=true∧lT G h u (U.getD j undef)) :
  Inv G (h.set id (.cells (putCells cs off vs))) (w.setRow (G.mU id) (C.toList.take off++U++C.toList.drop (off+U.length)).toArray) ∧
   Ext G h w G (h.set id (.cells (putCells cs off vs))) (w.setRow (G.mU id) (C.toList.take off++U++C.toList.drop (off+U.length)).toArray):=by
 obtain⟨C',e',h1,h2,h3,h4⟩:=i.mU id _ hid
 rw [hC] at h1
 simp only [ad0,Obj.cells.injEq] at h1
 obtain⟨rfl,rfl,_⟩:=h1
 refine i.step id (.cells cs) _ hid (by simp) (by simp) (by simp) (by simp) ?_ (fun _ _=>rfl) (fun _ _=>rfl) (fun _ _ _ hh=>hh) (fun _ _ _ _=>rfl) ?_ ?_ ?_ ?_
 ·intro k _ hk
  exact setRow_other w _ k _ (fun e=>hk (by simp [mL,e]))
 ·intro b k v hb hv
  rcases hb with hb | hb
  ·have:=i.ok b k v hv
   have hlt:b<w.heap.size:=by
    unfold World.cell? at this
    cases hh:w.heap[b]? with
    | none=>simp [hh] at this
    | some o=>exact(Array.getElem?_eq_some_iff.1 hh).1
   omega
  ·simp only [mL,ad0] at hb
   subst hb
   rw [h3] at hv;cases hv
 ·exact⟨(qF cs vs off hle).symm,rfl,rfl⟩
 ·intro m
  have hoff:off+U.length≤C.size:=by rw [hU,h2];exact hle
  refine⟨_,e,setRow_heap w _ C _ e _ hC,?_,h3,fun j u hu=>?_⟩
  ·rw [qF cs vs off hle];simp;omega
  ·rw [sC cs vs off j hle] at hu
   rw [af2,qT C U off j hoff]
   split at hu
   ·rename_i hj
    rw [if_pos hj]
    exact⟨(h4 j u hu).1,by have:=(h4 j u hu).2.mono m;rwa [af2] at this⟩
   ·rename_i hj
    rw [if_neg hj]
    split at hu
    ·rename_i hj2
     rw [if_pos (by rw [hU];exact hj2)]
     obtain⟨a1,a2⟩:=hrel _ u hu
     refine⟨a1,?_⟩
     have:=a2.mono m
     rwa [ae9] at this
    ·rename_i hj2
     rw [if_neg (by rw [hU];exact hj2)]
     exact⟨(h4 j u hu).1,by have:=(h4 j u hu).2.mono m;rwa [af2] at this⟩
 ·intro b hb
  exact .inr hb
theorem Inv.IP (i:Inv G h w) {id tot sz off b cap:Nat}{cs vs:List lC}{C:Array Value}{e:TypeId}{U:List Value}(hid:h[id]?=some (.vec tot sz cs))
  (hcur:G.cur id=.slice (some ⟨b,0,none⟩) tot cap) (hC:w.heap[b]?=some (.cells C e (0,0))) (hle:off+vs.length≤cs.length) (hU:U.length=vs.length)
  (hrel:∀(j:Nat) (u:lC),vs[j]?=some u→u.mE=true∧lT G h u (U.getD j undef)) :
  Inv G (h.set id (.vec tot sz (putCells cs off vs))) (w.setRow b (C.toList.take off++U++C.toList.drop (off+U.length)).toArray) ∧
   Ext G h w G (h.set id (.vec tot sz (putCells cs off vs))) (w.setRow b (C.toList.take off++U++C.toList.drop (off+U.length)).toArray):=by
 obtain⟨b',cap',C',e',g1,g2,g3,g4,g5,g6,g7,g8,g9⟩:=i.mU id _ hid
 rw [hcur] at g1
 simp only [Value.slice.injEq,ad0,Addr.mk.injEq] at g1
 obtain⟨⟨rfl,_⟩,_,rfl⟩:=g1
 rw [hC] at g2
 simp only [ad0,Obj.cells.injEq] at g2
 obtain⟨rfl,rfl,_⟩:=g2
 have hown:mL G id (.vec tot sz cs)=some b:=by simp [mL,hcur,Value.ownBlock]
 have hcl:cs.length≤C.size:=by rw [g7,g5];exact ao9 _ g3
 refine i.step id (.vec tot sz cs) _ hid (by simp) (by simp) (by simp) (by simp) ?_ (fun _ _=>rfl) (fun _ _=>rfl) (fun _ _ _ hh=>hh) (fun _ _ _ _=>rfl) ?_ ?_ ?_ ?_
 ·intro k _ hk
  exact setRow_other w _ k _ (fun e=>hk (by rw [hown,e]))
 ·intro b' k v hb hv
  rcases hb with hb | hb
  ·have:=i.ok b' k v hv
   have hlt:b'<w.heap.size:=by
    unfold World.cell? at this
    cases hh:w.heap[b']? with
    | none=>simp [hh] at this
    | some o=>exact(Array.getElem?_eq_some_iff.1 hh).1
   omega
  ·rw [hown] at hb
   cases hb
   rw [g8] at hv;cases hv
 ·exact⟨rfl,ai1 _,fun _=>rfl⟩
 ·intro m
  have hoff:off+U.length≤C.size:=by omega
  refine⟨b,cap,_,e,hcur,setRow_heap w _ C _ e _ hC,g3,g4,by simp;omega,g6,by rw [qF cs vs off hle];exact g7,g8,fun j u hu=>?_⟩
  rw [sC cs vs off j hle] at hu
  rw [af2,qT C U off j hoff]
  split at hu
  ·rename_i hj
   rw [if_pos hj]
   exact⟨(g9 j u hu).1,by have:=(g9 j u hu).2.mono m;rwa [af2] at this⟩
  ·rename_i hj
   rw [if_neg hj]
   split at hu
   ·rename_i hj2
    rw [if_pos (by rw [hU];exact hj2)]
    obtain⟨a1,a2⟩:=hrel _ u hu
    refine⟨a1,?_⟩
    have:=a2.mono m
    rwa [ae9] at this
   ·rename_i hj2
    rw [if_neg (by rw [hU];exact hj2)]
    exact⟨(g9 j u hu).1,by have:=(g9 j u hu).2.mono m;rwa [af2] at this⟩
 ·intro b' hb
  exact .inr (by rw [hown];simpa [mL,hcur,Value.ownBlock] using hb)
theorem Pv {o v u:lC}(hu:sX h o v=u):u=v∨(v=.slice [] .nil∧∃id,u=.slice [] (.own id)∧h[id]?=some (.front 0 0)):=by
 unfold sX at hu
 cases hn:v.isNil with
 | false=>rw [hn] at hu;exact .inl hu.symm
 | true =>
  rw [hn] at hu
  simp only [cond_true] at hu
  have hv:v=.slice [] .nil:=by
   unfold lC.isNil at hn
   split at hn
   ·rfl
   ·cases hn
  split at hu
  ·rename_i id
   split at hu
   ·rename_i hf;exact .inr ⟨hv,id,hu.symm,hf⟩
   ·exact .inl hu.symm
  ·exact .inl hu.symm
theorem sN:∀{os vs:List lC},(pM h os vs).length=vs.length
 | [],_=>by simp [pM]
 | _::_,[]=>by simp [pM]
 | _::os,_::vs=>by simp [pM,sN (os:=os) (vs:=vs)]
theorem Ba:∀{os vs:List lC}{j:Nat}{u:lC},(pM h os vs)[j]?=some u→∃v,vs[j]?=some v∧(u=v∨(v=.slice [] .nil∧∃id,u=.slice [] (.own id)∧h[id]?=some (.front 0 0)))
 | [],vs,j,u,hu=>⟨u,by simpa [pM] using hu,.inl rfl⟩
 | _::_,[],j,u,hu=>by simp [pM] at hu
 | o::os,v::vs,0,u,hu=>by
  simp only [pM,List.getElem?_cons_zero,ad0] at hu
  exact⟨v,rfl,Pv hu⟩
 | o::os,v::vs,j+1,u,hu=>by
  simp only [pM,List.getElem?_cons_succ] at hu
  obtain⟨v',h1,h2⟩:=Ba hu
  exact⟨v',by simpa using h1,h2⟩
theorem NM (i:Inv G h w) {u v:lC}{V:Value}(hk:u=v∨(v=.slice [] .nil∧∃id,u=.slice [] (.own id)∧h[id]?=some (.front 0 0))) (hc:v.mE=true) (hr:lT G h v V):u.mE=true∧lT G h u V:=by
 rcases hk with rfl | ⟨rfl,id,rfl,hf⟩
 ·exact⟨hc,hr⟩
 ·have hb:=i.mU id _ hf
  have hV:V=.slice none 0 0:=by
   cases hr with
   | p _ _ hp=>cases hp
   | nil=>rfl
  have hcur:G.cur id=.slice none 0 0:=by
   rcases hb with ⟨_,h1⟩ | ⟨b,cap,C,e,h1,h2,h3,h4,h5,h6,_⟩
   ·exact h1
   ·omega
  subst hV
  exact⟨rfl,.own [] id 0 0 _ (.slice0 none 0) hf (ai1 _) (by simp) fun _=>hcur.symm⟩
theorem wG {t:TypeId}{n:Nat}{h':lD}(hn:nQ P t=some n) (i:Inv G h w) (hb:lW n h x y=some h') (hx:lT G h x X) (hy:lT G h y Y) :
  ∃w',(Instr.storeAt t X Y).run P w=.ok () w'∧Inv G h' w'∧Ext G h w G h' w':=by
 unfold lW at hb
 split at hb
 ·rename_i id off
  cases hgb:nW h id with
  | none=>simp [hgb] at hb
  | some cs' =>
   have hid:=Fy hgb
   simp only [hgb] at hb
   obtain⟨z,hz,hzr⟩:∃z:lC,y.cells=z.cells∧lT G h z Y:=⟨_,rfl,hy⟩
   rw [hz] at hb
   split at hb
   case isFalse=>cases hb
   rename_i hcond
   obtain⟨hlen,hle,hall⟩:=hcond
   injection hb with hb
   subst hb
   obtain⟨rfl,_⟩:=hx.sF
   obtain⟨C,e,h1,h2,h3,h4⟩:=i.mU id _ hid
   obtain⟨c1,c2⟩:=wR hzr hall
   have hU:Y.cells.toList.length=z.cells.length:=by rw [Array.length_toList,c1]
   have h1c:∀u∈Y.cells.toList,u.oneCell'=true:=by
    intro u hu
    obtain⟨j,hj⟩:=List.getElem?_of_mem hu
    have hjl:j<z.cells.length:=by rw [←hU];exact(ac1.1 hj).1
    obtain⟨a1,a2⟩:=c2 j _ (ac6 hjl)
    have hval:Y.cells.getD j undef=u:=by rw [af2,←al9,hj];rfl
    rw [hval] at a2
    exact(a2.x7 a1).1
   have hst:=run_storeCells_at P (G.mU id) off e Y.cells.toList 0 C w h1 (by rw [Array.length_toList,h2];omega) h1c
   simp only [as3] at hst
   have hw:=i.write (off:=off) (vs:=pM h (cs'.drop off) z.cells) (U:=Y.cells.toList) hid h1 (by rw [sN];omega) (by rw [sN];exact hU) (fun j u hu=>by
    obtain⟨v,hv,hk⟩:=Ba hu
    obtain⟨a1,a2⟩:=c2 j v hv
    rw [ae9,al9]
    rw [af2] at a2
    exact NM i hk a1 a2)
   refine⟨_,?_,hw⟩
   have hsz:Y.cells.size=n:=by omega
   simp [Instr.storeAt,Instr.sureAddr,storeVar,nN hn,hsz,hst]
 ·rename_i id tot off
  cases hgb:nV h id tot with
  | none=>simp [hgb] at hb
  | some x0 =>
   have hid:=qX hgb
   simp only [hgb] at hb
   obtain⟨z,hz,hzr⟩:∃z:lC,y.cells=z.cells∧lT G h z Y:=⟨_,rfl,hy⟩
   rw [hz] at hb
   split at hb
   case isFalse=>cases hb
   rename_i hcond
   obtain⟨hlen,hle,hall⟩:=hcond
   injection hb with hb
   subst hb
   obtain⟨b,hX,_,_,h3⟩:=hx.BK
   obtain⟨b',cap,C,e,g1,g2,g3,g4,g5,g6,g7,g8,g9⟩:=i.mU id _ hid
   obtain⟨cap0,h4⟩:=h3 (by rw [g1];rfl)
   have h4':=h4
   rw [g1] at h4
   simp only [Value.slice.injEq,ad0,Addr.mk.injEq] at h4
   obtain⟨⟨rfl,_⟩,_,rfl⟩:=h4
   subst hX
   obtain⟨c1,c2⟩:=wR hzr hall
   have hU:Y.cells.toList.length=z.cells.length:=by rw [Array.length_toList,c1]
   have h1c:∀u∈Y.cells.toList,u.oneCell'=true:=by
    intro u hu
    obtain⟨j,hj⟩:=List.getElem?_of_mem hu
    have hjl:j<z.cells.length:=by rw [←hU];exact(ac1.1 hj).1
    obtain⟨a1,a2⟩:=c2 j _ (ac6 hjl)
    have hval:Y.cells.getD j undef=u:=by rw [af2,←al9,hj];rfl
    rw [hval] at a2
    exact(a2.x7 a1).1
   have hcl:x0.2.length≤C.size:=by rw [g7,g5];exact ao9 _ g3
   have hst:=run_storeCells_at P b' off e Y.cells.toList 0 C w g2 (by rw [Array.length_toList];omega) h1c
   simp only [as3] at hst
   have hw:=i.IP (off:=off) (vs:=z.cells) (U:=Y.cells.toList) hid h4' g2 (by omega) hU (fun j u hu=>by
    obtain⟨a1,a2⟩:=c2 j u hu
    rw [ae9,al9]
    rw [af2] at a2
    exact⟨a1,a2⟩)
   refine⟨_,?_,hw⟩
   have hsz:Y.cells.size=n:=by omega
   simp [Instr.storeAt,Instr.sureAddr,storeVar,nN hn,hsz,hst]
 ·cases hb
end
end
section
open Go Go.RowKit
theorem Inv.wY {G:Gh}{h:lD}{w:World}(i:Inv G h w) {b k:Nat}{v:Value}(hv:G.H b k=some v):b<w.heap.size:=by
 have:=i.ok b k v hv
 unfold World.cell? at this
 cases hh:w.heap[b]? with
 | none=>simp [hh] at this
 | some o=>exact(Array.getElem?_eq_some_iff.1 hh).1
theorem Inv.CB {G:Gh}{h:lD}{w:World}(i:Inv G h w) {b k:Nat}(hb:w.heap.size≤b):G.H b k=none:=by
 cases hv:G.H b k with
 | none=>rfl
 | some v=>have:=i.wY hv;omega
theorem vH:∀(vs:List lC) (k:Nat),(mM k vs).1.length=vs.length∧(∀(j:Nat) (b:mC),(mM k vs).2[j]?=some b→b=.front 0 0) ∧
  ∀(j:Nat) (c:lC),(mM k vs).1[j]?=some c→vs[j]?=some c∨(vs[j]?=some (.slice [] .nil)∧∃id,k≤id∧c=.slice [] (.own id)∧(mM k vs).2[id-k]?=some (.front 0 0))
 | [],k=>by simp [mM]
 | v::r,k=>by
  by_cases hv:v=.slice [] .nil
  ·subst hv
   obtain⟨h1,h2,h3⟩:=vH r (k+1)
   simp only [mM]
   refine⟨by simp [h1],?_,?_⟩
   ·intro j b hb
    cases j with
    | zero=>simp at hb;exact hb.symm
    | succ j=>exact h2 j b (by simpa using hb)
   ·intro j c hc
    cases j with
    | zero=>simp at hc;subst hc;exact .inr ⟨rfl,k,ai1 _,rfl,by simp⟩
    | succ j =>
     rcases h3 j c (by simpa using hc) with h4 | ⟨h4,id,h5,h6,h7⟩
     ·exact .inl (by simpa using h4)
     ·refine .inr ⟨by simpa using h4,id,by omega,h6,?_⟩
      rw [show id-k=(id-(k+1))+1 by omega]
      simpa using h7
  ·have he:mM k (v::r)=(v::(mM k r).1,(mM k r).2):=by
    rw [mM]
    exact hv
   obtain⟨h1,h2,h3⟩:=vH r k
   rw [he]
   refine⟨by simp [h1],h2,?_⟩
   intro j c hc
   cases j with
   | zero=>simp at hc;subst hc;exact .inl rfl
   | succ j =>
    rcases h3 j c (by simpa using hc) with h4 | ⟨h4,h5⟩
    ·exact .inl (by simpa using h4)
    ·exact .inr ⟨by simpa using h4,h5⟩
section
variable {P:Program}{G:Gh}{h:lD}{w:World}{x y v:lC}{X Y V:Value}
theorem lT.BW (r:lT G h (.slice [] .nil) V):V=.slice none 0 0:=by
 cases r with
 | p _ _ hp=>cases hp
 | nil=>rfl
def Gh.add (G:Gh) (n b:Nat):Gh:={ G with mU:=fun i=>if i=n then b else G.mU i,cur:=fun i=>if n<i then .slice none 0 0 else G.cur i }
theorem nE (w:World) (o:Obj) (k:Nat) (hk:k<w.heap.size):(w.alloc o).heap[k]?=w.heap[k]?:=Below.heap_alloc w o k hk
theorem Inv.new (i:Inv G h w) {n:Nat}{v p:lC}{h':lD}{Z:Value}(t:TypeId) (hb:nA n h v=some (p,h')) (hr:lT G h v Z) :
  ∃G',Inv G' h' (w.alloc (.cells Z.cells t))∧Ext G h w G' h' (w.alloc (.cells Z.cells t))∧lT G' h' p (.pointer (some ⟨w.heap.size,0,none⟩))∧Z.cells.size=n:=by
 unfold nA at hb
 simp only [] at hb
 split at hb
 case isFalse=>cases hb
 rename_i hcond
 obtain⟨hlen,hall⟩:=hcond
 simp only [ad0,ar1] at hb
 obtain⟨rfl,rfl⟩:=hb
 obtain⟨c1,c2⟩:=wR hr hall
 obtain⟨t1,t2,t3⟩:=vH v.cells (h.length+1)
 have hsz:Z.cells.size=n:=by omega
 refine⟨G.add h.length w.heap.size,?_⟩
 have key:=i.push (G':=G.add h.length w.heap.size) (ext:=.cells (mM (h.length+1) v.cells).1::(mM (h.length+1) v.cells).2) (w':=w.alloc (.cells Z.cells t))
  rfl rfl rfl (by simp) (fun k hk=>nE w _ k hk) (fun id hid=>by simp [Gh.add];omega) (fun id hid=>by simp [Gh.add];omega) (fun _ _ _ hh=>hh) (fun _ _ _=>rfl)
  (fun b k v hb hv=>by have:=i.wY (b:=b) (k:=k) (v:=v) hv;omega)
  (fun j bl hj m=>by
   cases j with
   | zero =>
    simp at hj;subst hj
    refine⟨Z.cells,t,by simp only [Gh.add,as3,if_true];exact heap_alloc_new w _,by omega,fun k=>by simp only [Gh.add,as3,if_true];exact i.CB (ai1 _),fun j u hu=>?_⟩
    rcases t3 j u hu with h4 | ⟨h4,id,h5,h6,h7⟩
    ·exact⟨(c2 j u h4).1,(c2 j u h4).2.mono m⟩
    ·subst h6
     obtain⟨_,hz⟩:=c2 j _ h4
     have hz:=hz.BW
     refine⟨rfl,?_⟩
     rw [hz]
     refine .own (t:=0) [] id 0 0 _ (.slice0 none 0) ?_ (ai1 _) (by simp) (fun _=>by simp only [Gh.add];rw [if_pos (by omega)])
     rw [af4 (by omega),show id-h.length=(id-(h.length+1))+1 by omega]
     simpa using h7
   | succ j =>
    have hj':=t2 j bl (by simpa using hj)
    subst hj'
    exact .inl ⟨rfl,by simp only [Gh.add];rw [if_pos (by omega)]⟩)
  (fun j bl b hj ho=>by
   cases j with
   | zero=>simp at hj;subst hj;simp only [mL,Gh.add,as3,if_true,ad0] at ho;omega
   | succ j =>
    have hj':=t2 j bl (by simpa using hj)
    subst hj'
    simp only [mL,Gh.add] at ho
    rw [if_pos (by omega)] at ho
    cases ho)
  (fun j j' bl bl' b hj hj' ho ho'=>by
   have:∀j bl,(mC.cells (mM (h.length+1) v.cells).1::(mM (h.length+1) v.cells).2)[j]?=some bl→mL (G.add h.length w.heap.size) (h.length+j) bl=some b→j=0:=by
    intro j bl hj ho
    cases j with
    | zero=>rfl
    | succ j =>
     have hj':=t2 j bl (by simpa using hj)
     subst hj'
     simp only [mL,Gh.add] at ho
     rw [if_pos (by omega)] at ho
     cases ho
   rw [this j bl hj ho,this j' bl' hj' ho'])
 refine⟨key.1,key.2,?_,hsz⟩
 have hp:=lT.ptr (G:=G.add h.length w.heap.size) (h:=h++.cells (mM (h.length+1) v.cells).1::(mM (h.length+1) v.cells).2) h.length 0
  ⟨.cells (mM (h.length+1) v.cells).1,by simp,by simp⟩
 simpa [Gh.add] using hp
theorem O6 {t:TypeId}{n:Nat}{p:lC}{h':lD}(i:Inv G h w) (hb:nA n h x=some (p,h')) (hx:lT G h x X) :
  ∃V w' G',(Instr.box t X).run P w=.ok V w'∧Inv G' h' w'∧Ext G h w G' h' w'∧lT G' h' p V:=by
 obtain⟨G',h1,h2,h3,_⟩:=i.new t hb hx
 exact⟨_,_,G',by simp [Instr.box,newVar,newRow,Sem.run_pure],h1,h2,h3⟩
theorem pJ {t:TypeId}{z:lC}(hz:pT P t=some z):∃Z,(zeroValue t).run P w=.ok Z w∧lT G h z Z:=by
 unfold pT at hz
 cases hi:P.info? t with
 | none=>simp [hi] at hz
 | some ti =>
  cases hzz:ti.zero with
  | none=>simp [hi,hzz] at hz
  | some Z =>
   simp [hi,hzz] at hz;subst hz
   exact⟨Z,by simp [zeroValue,Go.typeInfo,hi,hzz,Sem.run_pure],rO G h Z⟩
theorem Kz {t:TypeId}{n:Nat}{z p:lC}{h':lD}(i:Inv G h w) (hz:pT P t=some z) (hb:nA n h z=some (p,h')) :
  ∃V w' G',(Instr.alloc t true (.tuple #[])).run P w=.ok V w'∧Inv G' h' w'∧Ext G h w G' h' w'∧lT G' h' p V:=by
 obtain⟨Z,hz1,hz2⟩:=pJ (P:=P) (G:=G) (h:=h) (w:=w) hz
 obtain⟨G',h1,h2,h3,_⟩:=i.new t hb hz2
 refine⟨_,_,G',?_,h1,h2,h3⟩
 simp [Instr.alloc,hz1,newVar,newRow,Sem.run_pure]
end
end
section
open Go Go.RowKit
theorem JG (off:Nat):∀(us:List Value) (k:Nat) (C:Array Value),off+k+us.length≤C.size →
  ((us.zipIdx k).foldl (fun(cs:Array Value) p=>cs.setIfInBounds (off+p.2) p.1) C)=(C.toList.take (off+k)++us++C.toList.drop (off+k+us.length)).toArray
 | [],k,C,_=>by simp
 | u::us,k,C,hl=>by
  simp only [List.zipIdx_cons,List.foldl_cons]
  rw [JG off us (k+1) (C.setIfInBounds (off+k) u) (by simp at hl ⊢;omega)]
  congr 1
  have e:=list_seg_step C.toList (off+k) u us (by simp at hl ⊢;omega)
  simpa [Array.toList_setIfInBounds,Nat.add_assoc] using e
section
variable {P:Program}{G:Gh}{h:lD}{w:World}{x y v:lC}{X Y V:Value}
theorem rX (hj:x.oC=false) (hx:lT G h x X):x.cells.length=X.cells.size∧∀(i:Nat) (u:lC),x.cells[i]?=some u→lT G h u (X.cells.getD i undef):=by
 by_cases ha:∃cs,x=.agg cs
 ·obtain⟨cs,rfl⟩:=ha
  obtain⟨C,rfl,hl,hr⟩:=hx.sR
  exact⟨hl,hr⟩
 ·have hc:x.cells=[x]:=by cases x <;> simp_all [lC.cells]
  have hX:X.cells=#[X]:=by
   cases hx with
   | p _ _ hp=>cases hp <;> simp_all [lC.oC,Value.cells]
   | own _ _ _ _ _ hp=>cases hp <;> simp [Value.cells]
   | ownv _ _ hp=>cases hp <;> simp [Value.cells]
   | _=>simp_all [Value.cells]
  rw [hc,hX]
  refine⟨rfl,fun i u hu=>?_⟩
  cases i with
  | zero=>simp at hu;subst hu;simpa using hx
  | succ i=>simp at hu
def FO (G:Gh) (h:lD) (cs:List lC) (C:Array Value):Prop:=cs.length=C.size∧∀(i:Nat) (u:lC),cs[i]?=some u→lT G h u (C.getD i undef)
theorem FO.put {cs vs:List lC}{C:Array Value}{U:List Value}{off:Nat}(hc:FO G h cs C) (hle:off+vs.length≤cs.length) (hU:U.length=vs.length)
  (hr:∀(j:Nat) (u:lC),vs[j]?=some u→lT G h u (U.getD j undef)):FO G h (putCells cs off vs) (C.toList.take off++U++C.toList.drop (off+U.length)).toArray:=by
 obtain⟨h1,h2⟩:=hc
 have hoff:off+U.length≤C.size:=by omega
 refine⟨by rw [qF cs vs off hle];simp;omega,fun j u hu=>?_⟩
 rw [sC cs vs off j hle] at hu
 rw [af2,qT C U off j hoff]
 split at hu
 ·rename_i hj;rw [if_pos hj];have:=h2 j u hu;rwa [af2] at this
 ·rename_i hj
  rw [if_neg hj]
  split at hu
  ·rename_i hj2;rw [if_pos (by omega)];have:=hr _ u hu;rwa [ae9] at this
  ·rename_i hj2;rw [if_neg (by omega)];have:=h2 j u hu;rwa [af2] at this
theorem Ag (place:Nat→Option (Nat×Nat)) (places:List (Nat×Nat)) (hp:∀i p,places[i]?=some p→place i=some p) :
  ∀(parts:List (Nat×lC)) (PS:List (Nat×Value)) (zero:List lC) (Z:Array Value) (r:lC),FO G h zero Z →
   (parts.map (·.1)=PS.map (·.1))→(∀(j:Nat) a b,parts[j]?=some a→PS[j]?=some b→lT G h a.2 b.2)→mD zero places parts=some r →
   ∃C cs,Instr.fill place Z PS=some C∧r=.agg cs∧FO G h cs C
 | [],PS,zero,Z,r,hz,hm,_,hb=>by
  have:PS=[]:=by simpa using hm.symm
  subst this
  simp only [mD,ad0] at hb;subst hb
  exact⟨Z,zero,rfl,rfl,hz⟩
 | (i,u)::rest,[],zero,Z,r,_,hm,_,_=>by simp at hm
 | (i,u)::rest,(i',U)::PS,zero,Z,r,hz,hm,hr,hb=>by
  simp only [List.map_cons,List.cons.injEq] at hm
  obtain⟨rfl,hm⟩:=hm
  simp only [mD] at hb
  split at hb
  ·rename_i off n hpl
   split at hb
   case isFalse=>cases hb
   rename_i hcond
   obtain⟨hj,hn,hle⟩:=hcond
   have hU:lT G h u U:=hr 0 (i,u) (i,U) rfl rfl
   obtain⟨c1,c2⟩:=rX hj hU
   subst hn
   have hpl':=hp i _ hpl
   have hput:=hz.put (U:=U.cells.toList) hle (by simpa using c1.symm) (fun j a ha=>by
    have:=c2 j a ha
    rw [ae9,al9]
    rwa [af2] at this)
   obtain⟨C,cs,e1,e2,e3⟩:=Ag place places hp rest PS _ _ r hput hm (fun j a b ha hb=>hr (j+1) a b (by simpa using ha) (by simpa using hb)) hb
   refine⟨C,cs,?_,e2,e3⟩
   have hzl:zero.length=Z.size:=hz.1
   have hfold:=JG off U.cells.toList 0 Z (by rw [Array.length_toList];omega)
   simp only [as3] at hfold
   have hsz:U.cells.size=u.cells.length:=c1.symm
   simp only [Instr.fill,hpl',hsz,ne_eq,not_true_eq_false,false_or]
   rw [if_neg (by simp;omega)]
   rw [←Array.foldl_toList,Array.toList_zipIdx,hfold]
   exact e1
  ·cases hb
theorem IX {t:TypeId}{fs:Array Field}{z r:lC}{places:List (Nat×Nat)}{parts:Array (Nat×Operand)}{f:Operand→lC}{F:Operand→Value}
  (ht:P.underlying t=some (.struct fs)) (hz:pT P t=some z) (hp:fs.toList.mapM (fun f=>(nQ P f.type).map fun n=>(f.offset,n))=some places) (hf:∀o,lT G h (f o) (F o))
  (hzj:z.oC=false) (hb:mD z.cells places (parts.toList.map fun p=>(p.1,f p.2))=some r) :
  ∃V,(Instr.build t (parts.map fun(i,x)=>(i,F x))).run P w=.ok V w∧lT G h r V:=by
 obtain⟨Z,hz1,hz2⟩:=pJ (P:=P) (G:=G) (h:=h) (w:=w) hz
 have hmap:∀(l:List Field) (ps:List (Nat×Nat)),l.mapM (fun f=>(nQ P f.type).map fun n=>(f.offset,n))=some ps →
   (l.mapM (fun f=>(Prod.mk f.offset <$> Go.sizeOf f.type:Sem (Nat×Nat)))).run P w=.ok ps w:=by
  intro l
  induction l with
  | nil=>intro ps hps;simp at hps;subst hps;simp [Sem.run_pure]
  | cons f l ih =>
   intro ps hps
   simp only [List.mapM_cons,Option.bind_eq_bind,ab6] at hps
   obtain⟨a,ha,bs,hbs,hps⟩:=hps
   cases hs:nQ P f.type with
   | none=>simp [hs] at ha
   | some n =>
    simp [hs] at ha;subst ha
    simp only [Option.pure_def,ad0] at hps;subst hps
    simp only [List.mapM_cons,map_eq_pure_bind] at ih ⊢
    simp only [Sem.run_bind,nN hs,Sem.run_pure,Result.andThen_ok,ih bs hbs]
 have hmapA:(fs.mapM (fun f=>(Prod.mk f.offset <$> Go.sizeOf f.type:Sem (Nat×Nat)))).run P w=.ok places.toArray w:=by
  rw [Array.mapM_eq_mapM_toList]
  have:=hmap fs.toList places hp
  simp only [map_eq_pure_bind] at this
  simp only [map_eq_pure_bind,Sem.run_bind,this,Result.andThen_ok,Sem.run_pure]
 obtain⟨C,cs,e1,rfl,e3⟩:=Ag (G:=G) (h:=h) (fun i=>places.toArray[i]?) places (by simp) _ (parts.toList.map fun p=>(p.1,F p.2)) z.cells Z.cells r (rX hzj hz2)
  (by simp) (fun j a b ha hb=>by
   simp only [af7,af1] at ha hb
   obtain⟨p,hp1,rfl⟩:=ha
   obtain⟨q,hq1,rfl⟩:=hb
   rw [hp1] at hq1;cases hq1
   exact hf _) hb
 refine⟨.agg C,?_,.agg _ _ e3.1 e3.2⟩
 simp only [List.getElem?_toArray] at e1
 simp [Instr.build,hz1,run_underlying ht,hmapA,e1,Sem.run_pure]
theorem KC {t e:TypeId}{len n:Nat}{z r:lC}{parts:Array (Nat×Operand)}{f:Operand→lC}{F:Operand→Value}
  (ht:P.underlying t=some (.array len e)) (hz:pT P t=some z) (hn:nQ P e=some n) (hf:∀o,lT G h (f o) (F o))
  (hzj:z.oC=false) (hb:mD z.cells ((aq5 len).map fun i=>(i*n,n)) (parts.toList.map fun p=>(p.1,f p.2))=some r) :
  ∃V,(Instr.build t (parts.map fun(i,x)=>(i,F x))).run P w=.ok V w∧lT G h r V:=by
 obtain⟨Z,hz1,hz2⟩:=pJ (P:=P) (G:=G) (h:=h) (w:=w) hz
 obtain⟨C,cs,e1,rfl,e3⟩:=Ag (G:=G) (h:=h) (fun i=>some (i*n,n)) ((aq5 len).map fun i=>(i*n,n)) (fun i p hp=>by
   simp only [af7,af1] at hp
   obtain⟨a,ha,rfl⟩:=hp
   have:=(ac1.1 ha).2
   simp at this;rw [this]) _ (parts.toList.map fun p=>(p.1,F p.2)) z.cells Z.cells r (rX hzj hz2)
  (by simp) (fun j a b ha hb=>by
   simp only [af7,af1] at ha hb
   obtain⟨p,hp1,rfl⟩:=ha
   obtain⟨q,hq1,rfl⟩:=hb
   rw [hp1] at hq1;cases hq1
   exact hf _) hb
 refine⟨.agg C,?_,.agg _ _ e3.1 e3.2⟩
 simp [Instr.build,hz1,run_underlying ht,nN hn,e1,Sem.run_pure]
theorem t_ {c c' : lC} {V : Value} (hp : c.AN = some c') (hr : lT G h c V) : oQ G.H c' V ∧ c'.mE = true := by
  unfold lC.AN at hp
  split at hp <;> simp only [ad0, reduceCtorEq] at hp <;> subst hp
  all_goals first
    | exact ⟨hr.rH, rfl⟩
    | (refine ⟨?_, rfl⟩; cases hr with | p _ _ h => exact h)
    | (refine ⟨?_, rfl⟩
       cases hr with
       | p _ _ h => exact h
       | func f first cap F C hlf hlc hf hc =>
         have h1 : F = #[] := Array.eq_empty_of_size_eq_zero hlf.symm
         have h2 : C = #[] := Array.eq_empty_of_size_eq_zero hlc.symm
         subst h1; subst h2; exact .func _)
theorem p6:∀{cs row:List lC},nP cs=some row→row.length=cs.length∧∀(j:Nat) (c:lC),cs[j]?=some c→∃c',row[j]?=some c'∧c.AN=some c'
 | [],row,hp=>by simp only [nP,ad0] at hp;subst hp;simp
 | v::r,row,hp=>by
  simp only [nP] at hp
  split at hp <;> simp only [ad0,reduceCtorEq] at hp
  rename_i a b ha hb
  subst hp
  obtain⟨h1,h2⟩:=p6 hb
  refine⟨by simp [h1],fun j c hc=>?_⟩
  cases j with
  | zero=>simp at hc;subst hc;exact⟨a,rfl,ha⟩
  | succ j=>obtain⟨c',e1,e2⟩:=h2 j c (by simpa using hc);exact⟨c',by simpa using e1,e2⟩
theorem qK:∀(n sz:Nat) (cs:List lC),n*sz≤cs.length→(rowsOf n sz cs).length=n∧(∀r∈rowsOf n sz cs,r.length=sz) ∧
  ∀(i j:Nat) (row:List lC) (c:lC),(rowsOf n sz cs)[i]?=some row→row[j]?=some c→cs[i*sz+j]?=some c
 | 0,sz,cs,_=>by simp [rowsOf]
 | n+1,sz,cs,hl=>by
  have hl':n*sz≤(cs.drop sz).length:=by rw [List.length_drop];rw [Nat.add_mul] at hl;omega
  obtain⟨h1,h2,h3⟩:=qK n sz (cs.drop sz) hl'
  simp only [rowsOf]
  have hsz:(cs.take sz).length=sz:=by rw [ao3];rw [Nat.add_mul] at hl;omega
  refine⟨by simp [h1],?_,?_⟩
  ·intro r hr
   rcases List.mem_cons.1 hr with rfl | hr
   ·exact hsz
   ·exact h2 r hr
  ·intro i j row c hi hj
   cases i with
   | zero =>
    simp at hi;subst hi
    rw [ao0] at hj
    split at hj
    ·simpa using hj
    ·cases hj
   | succ i =>
    have:=h3 i j row c (by simpa using hi) hj
    rw [am5] at this
    rw [show(i+1)*sz+j=sz+(i*sz+j) by rw [Nat.add_mul];omega]
    exact this
theorem zQ {H:Nat→Nat→Option Value}{n sz b off cap:Nat}{row:List lC}{F:Nat→Value}(hl:n*sz≤row.length) (hc:n≤cap)
  (hH:∀(j:Nat) (c:lC),row[j]?=some c→j<n*sz→H b (off+j)=some (F j)∧oQ H c (F j)∧c.mE=true) :
  oQ H (.slice (rowsOf n sz row) .no) (.slice (some ⟨b,off,none⟩) n cap):=by
 obtain⟨h1,h2,h3⟩:=qK n sz row hl
 have hb:∀(i j:Nat) (r:List lC) (c:lC),(rowsOf n sz row)[i]?=some r→r[j]?=some c→row[i*sz+j]?=some c∧i*sz+j<n*sz:=by
  intro i j r c hi hj
  refine⟨h3 i j r c hi hj,?_⟩
  have hi':i<n:=by rw [←h1];exact(ac1.1 hi).1
  have hj':j<sz:=by rw [←h2 r (af3 hi)];exact(ac1.1 hj).1
  calc i*sz+j<i*sz+sz:=by omega
   _=(i+1)*sz:=by rw [Nat.add_mul];omega
   _≤n*sz:=ao9 _ hi'
 have:=oQ.slice (H:=H) (rowsOf n sz row) b off cap sz F h2 (by rw [h1];exact hc)
  (fun i j r c hi hj=>by obtain⟨a1,a2⟩:=hb i j r c hi hj;exact(hH _ c a1 a2).1)
  (fun i j r c hi hj=>by obtain⟨a1,a2⟩:=hb i j r c hi hj;exact(hH _ c a1 a2).2.2)
  (fun i j r c hi hj=>by obtain⟨a1,a2⟩:=hb i j r c hi hj;exact(hH _ c a1 a2).2.1)
 rwa [h1] at this
end
end
section
open Go Go.RowKit
section
variable {P:Program}{G:Gh}{h:lD}{w:World}{x y v:lC}{X Y V:Value}
def Gh.qD (G:Gh) (n b:Nat) (C:Array Value) (V:Value):Gh :=
 {G with H:=fun c k=>if c=b then C[k]? else G.H c k,cur:=fun i=>if i=n then V else G.cur i }
theorem Inv.newRow (i:Inv G h w) {len sz:Nat}{cs row:List lC}{C:Array Value}(e:TypeId) (hc:FO G h cs C) (hp:nP cs=some row) (hl:C.size=len*sz) (hmax:len≤maxLen) (hsz0:0<sz) :
  ∃G',Inv G' (h++[.front len sz]) (w.alloc (.cells C e))∧Ext G h w G' (h++[.front len sz]) (w.alloc (.cells C e)) ∧
   lT G' (h++[.front len sz]) (.slice (rowsOf len sz row) (.own h.length)) (.slice (some ⟨w.heap.size,0,none⟩) len len):=by
 obtain⟨p1,p2⟩:=p6 hp
 obtain⟨c1,c2⟩:=hc
 have hHlt:∀{b k v},G.H b k=some v→b≠w.heap.size:=fun hv=>by have:=i.wY hv;omega
 refine⟨G.qD h.length w.heap.size C (.slice (some ⟨w.heap.size,0,none⟩) len len),?_⟩
 have hmono:∀b k v,G.H b k=some v→(G.qD h.length w.heap.size C (.slice (some ⟨w.heap.size,0,none⟩) len len)).H b k=some v:=by
  intro b k v hv;simp only [Gh.qD,if_neg (hHlt hv),hv]
 have key:=i.push (G':=G.qD h.length w.heap.size C (.slice (some ⟨w.heap.size,0,none⟩) len len)) (ext:=[.front len sz]) (w':=w.alloc (.cells C e))
  rfl rfl rfl (by simp) (fun k hk=>nE w _ k hk) (fun id hid=>rfl) (fun id hid=>by simp only [Gh.qD];rw [if_neg (by omega)]) hmono
  (fun b k hb=>by simp only [Gh.qD];rw [if_neg (by omega)])
  (fun b k v hb hv=>by
   by_cases hbe:b=w.heap.size
   ·subst hbe
    simp only [Gh.qD,if_true] at hv
    rw [cell_of _ _ _ (heap_alloc_new w _),hv]
   ·simp only [Gh.qD,if_neg hbe] at hv
    have:=i.wY hv;omega)
  (fun j bl hj m=>by
   cases j with
   | zero =>
    simp at hj;subst hj
    refine .inr ⟨w.heap.size,len,C,e,by simp [Gh.qD],heap_alloc_new w _,ai1 _,hmax,hl,hsz0,fun k hk=>?_,fun h=>absurd rfl h⟩
    simp only [Gh.qD,if_true]
    exact Array.getElem?_eq_none (by omega)
   | succ j=>simp at hj)
  (fun j bl b hj ho=>by
   cases j with
   | zero=>simp at hj;subst hj;simp only [mL,Gh.qD,as3,if_true,Value.ownBlock,ad0] at ho;omega
   | succ j=>simp at hj)
  (fun j j' bl bl' b hj hj' _ _=>by
   have h1:j<1:=by simpa using (ac1.1 hj).1
   have h2:j'<1:=by simpa using (ac1.1 hj').1
   omega)
 refine⟨key.1,key.2,?_⟩
 have hlen:(rowsOf len sz row).length=len:=(qK len sz row (by omega)).1
 refine .own (t:=0) _ h.length len sz _ ?_ (by simp) (by omega) (qK len sz row (by omega)).2.1 (fun _=>by simp [Gh.qD])
 refine zQ (F:=fun j=>C.getD j undef) (by omega) (ai1 _) fun j c hj hlt=>?_
 have hjl:j<C.size:=by omega
 obtain⟨c0,hc0⟩:∃c0,cs[j]?=some c0:=⟨cs[j]'(by omega),ac6 (by omega)⟩
 obtain⟨c',e1,e2⟩:=p2 j c0 hc0
 rw [hj] at e1;cases e1
 obtain⟨q1,q2⟩:=t_ e2 (c2 j c0 hc0)
 refine⟨?_,q1.mono hmono,q2⟩
 simp [Gh.qD,af2,hjl]
theorem uK {zc:List lC}{Z:Array Value}(hz:FO G h zc Z):∀(len:Nat),FO G h (al7 len zc).flatten ((Array.range (len*Z.size)).map fun j=>Z[j%Z.size]!):=by
 intro len
 obtain⟨h1,h2⟩:=hz
 refine⟨by simp [h1],fun j u hu=>?_⟩
 have hlt:j<len*zc.length:=by
  have:=(ac1.1 hu).1
  simpa using this
 have hpos:0<zc.length:=by
  rcases Nat.eq_zero_or_pos zc.length with h0 | h0
  ·rw [h0] at hlt;omega
  ·exact h0
 have hmod:j%zc.length<zc.length:=Nat.mod_lt _ hpos
 have hflat:∀(n j:Nat),j<n*zc.length→(al7 n zc).flatten[j]?=zc[j%zc.length]?:=by
  intro n
  induction n with
  | zero=>intro j hj;omega
  | succ n ih =>
   intro j hj
   rw [List.replicate_succ,List.flatten_cons]
   by_cases hjl:j<zc.length
   ·rw [am3 hjl,Nat.mod_eq_of_lt hjl]
   ·rw [af4 (by omega),ih (j-zc.length) (by rw [Nat.add_mul] at hj;omega)]
    rw [Nat.mod_eq_sub_mod (a:=j) (by omega)]
 rw [hflat len j hlt] at hu
 have:=h2 _ u hu
 rw [h1] at hlt hmod this
 have e:((Array.range (len*Z.size)).map fun j=>Z[j%Z.size]!).getD j undef=Z.getD (j%Z.size) undef:=by
  simp [af2,hlt,hmod]
 rw [e];exact this
theorem yW {t e:TypeId}{len sz:Nat}{z:lC}{cs:List lC}{parts:Array (Nat×Operand)}{f:Operand→lC}{F:Operand→Value}
  (ht:P.underlying t=some (.slice e)) (hz:pT P e=some z) (hn:nQ P e=some sz) (hsz:sz≠0) (hle:len*sz≤16777216) (hf:∀o,lT G h (f o) (F o)) (hzj:z.oC=false) (hzl:z.cells.length=sz)
  (hbd:mD (al7 len z.cells).flatten ((aq5 len).map fun i=>(i*sz,sz)) (parts.toList.map fun p=>(p.1,f p.2))=some (.agg cs)) :
  ∃C,FO G h cs C∧C.size=len*sz∧len≤maxLen ∧
   (Instr.buildSlice t len (parts.map fun(i,x)=>(i,F x))).run P w=.ok (.slice (some ⟨w.heap.size,0,none⟩) len len) (w.alloc (.cells C e)):=by
 obtain⟨Z,hz1,hz2⟩:=pJ (P:=P) (G:=G) (h:=h) (w:=w) hz
 have hzc:=rX hzj hz2
 have hZs:Z.cells.size=sz:=by rw [←hzl];exact hzc.1.symm
 obtain⟨C,cs',e1,e2,e3⟩:=Ag (G:=G) (h:=h) (fun i=>some (i*sz,sz)) ((aq5 len).map fun i=>(i*sz,sz)) (fun i p hp=>by
   simp only [af7,af1] at hp
   obtain⟨a,ha,rfl⟩:=hp
   have:=(ac1.1 ha).2
   simp at this;rw [this]) _ (parts.toList.map fun p=>(p.1,F p.2)) _ _ _ (uK hzc len)
  (by simp) (fun j a b ha hb=>by
   simp only [af7,af1] at ha hb
   obtain⟨p,hp1,rfl⟩:=ha
   obtain⟨q,hq1,rfl⟩:=hb
   rw [hp1] at hq1;cases hq1
   exact hf _) hbd
 cases e2
 have hlen:∀(places:List (Nat×Nat)) (parts:List (Nat×lC)) (zc:List lC) (r:lC),mD zc places parts=some r→∃cs,r=.agg cs∧cs.length=zc.length:=by
  intro places parts
  induction parts with
  | nil=>intro zc r hr;simp only [mD,ad0] at hr;exact⟨zc,hr.symm,rfl⟩
  | cons p parts ih =>
   intro zc r hr
   simp only [mD] at hr
   split at hr
   ·split at hr
    case isFalse=>cases hr
    rename_i hc
    obtain⟨cs,e1,e2⟩:=ih _ _ hr
    refine⟨cs,e1,e2.trans ?_⟩
    exact qF _ _ _ (by obtain⟨_,h2,h3⟩:=hc;omega)
   ·cases hr
 obtain⟨cs2,e4,e5⟩:=hlen _ _ _ _ hbd
 cases e4
 have hCs:C.size=len*sz:=by
  rw [←e3.1,e5];simp [hzl]
 refine⟨C,e3,hCs,by
  have:len≤len*sz:=Nat.le_mul_of_pos_right _ (by omega)
  simp only [maxLen];omega,?_⟩
 have hnle:¬(len*sz > 2^24):=by omega
 rw [hZs] at e1
 by_cases h0:len*sz=0
 ·have hl0:len=0:=by
   rcases Nat.mul_eq_zero.1 h0 with h1 | h1
   ·exact h1
   ·exact absurd h1 hsz
  subst hl0
  have hE:∀g:Nat→Value,Array.map g (Array.range 0)=#[]:=fun g=>Array.eq_empty_of_size_eq_zero (by simp)
  simp only [Nat.zero_mul,hE] at e1
  simp [Instr.buildSlice,run_underlying ht,nN hn,hE,e1,newRow,Sem.run_pure]
 ·simp [Instr.buildSlice,run_underlying ht,nN hn,hnle,h0,hz1,hZs,e1,newRow,Sem.run_pure]
theorem w_ {t e:TypeId}{len sz:Nat}{z:lC}{rows:List (List lC)}{parts:Array (Nat×Operand)}{f:Operand→lC}{F:Operand→Value}
  (ht:P.underlying t=some (.slice e)) (hz:pT P e=some z) (hn:nQ P e=some sz) (hsz:sz≠0) (hle:len*sz≤16777216) (hf:∀o,lT G h (f o) (F o)) (hzj:z.oC=false)
  (hb:rE len sz z.cells (parts.toList.map fun p=>(p.1,f p.2))=some rows) :
  ∃cs row C,nP cs=some row∧rows=rowsOf len sz row∧FO G h cs C∧C.size=len*sz∧len≤maxLen ∧
   (Instr.buildSlice t len (parts.map fun(i,x)=>(i,F x))).run P w=.ok (.slice (some ⟨w.heap.size,0,none⟩) len len) (w.alloc (.cells C e)):=by
 unfold rE at hb
 split at hb
 ·rename_i cs hbd
  split at hb
  ·rename_i row hrow
   split at hb
   case isFalse=>cases hb
   rename_i hcond
   obtain⟨hzl,hall⟩:=hcond
   simp only [ad0] at hb
   subst hb
   obtain⟨C,e3,hCs,hm,hrun⟩:=yW (G:=G) (h:=h) (w:=w) ht hz hn hsz hle hf hzj hzl hbd
   exact⟨cs,row,C,hrow,rfl,e3,hCs,hm,hrun⟩
  ·cases hb
 ·cases hb
theorem Dd {t e:TypeId}{len sz:Nat}{z r:lC}{h':lD}{parts:Array (Nat×Operand)}{f:Operand→lC}{F:Operand→Value}
  (i:Inv G h w) (ht:P.underlying t=some (.slice e)) (hz:pT P e=some z) (hn:nQ P e=some sz) (hsz:sz≠0) (hle:len*sz≤16777216) (hf:∀o,lT G h (f o) (F o)) (hzj:z.oC=false)
  (hb:lR len sz z.cells (parts.toList.map fun p=>(p.1,f p.2)) h=some (r,h')) :
  ∃V w' G',(Instr.buildSlice t len (parts.map fun(i,x)=>(i,F x))).run P w=.ok V w'∧Inv G' h' w'∧Ext G h w G' h' w'∧lT G' h' r V:=by
 unfold lR at hb
 split at hb
 ·rename_i rows hrows
  simp only [ad0,ar1] at hb
  obtain⟨rfl,rfl⟩:=hb
  obtain⟨cs,row,C,h1,rfl,h3,h4,h5,h6⟩:=w_ (G:=G) (h:=h) (w:=w) ht hz hn hsz hle hf hzj hrows
  obtain⟨G',g1,g2,g3⟩:=i.newRow e h3 h1 h4 h5 (by omega)
  exact⟨_,_,G',h6,g1,g2,g3⟩
 ·cases hb
end
end
section
open Go Go.RowKit
theorem Inv.drew {G:Gh}{h:lD}{w:World}(i:Inv G h w):Inv G h w.drew:=⟨i.ok,fun id bl hb=>by have:=i.mU id bl hb;cases bl <;> exact this,i.inj⟩
theorem Inv.drawn {G:Gh}{h:lD}{w:World}(i:Inv G h w) (d:Nat):Inv G h { w with drawn:=d }:=⟨i.ok,fun id bl hb=>by have:=i.mU id bl hb;cases bl <;> exact this,i.inj⟩
theorem Ext.drawn (G:Gh) (h:lD) (w:World) (d:Nat):Ext G h w G h { w with drawn:=d } :=
 ⟨rfl,rfl,rfl,ai1 _,fun _ _ _=>⟨rfl,fun _=>rfl⟩,fun _ _ _ h=>h,fun _ _ h _=>h,fun id bl hb=>⟨bl,hb,Kind.refl G id bl⟩⟩
theorem Ext.drew (G:Gh) (h:lD) (w:World):Ext G h w G h w.drew :=
 ⟨rfl,rfl,rfl,ai1 _,fun _ _ _=>⟨rfl,fun _=>rfl⟩,fun _ _ _ h=>h,fun _ _ h _=>h,fun id bl hb=>⟨bl,hb,Kind.refl G id bl⟩⟩
section
variable {P:Program}{G:Gh}{h:lD}{w:World}{x y v:lC}{X Y V:Value}
structure Src (G:Gh) (h:lD) (w:World) (sz:Nat) (rows:List (List lC)) (X:Value) (a:Option Addr) (news:List Value):Prop where
 form:∃cap,X=.slice a rows.length cap
 len:news.length=rows.length*sz
 rlen:∀r∈rows,r.length=sz
 at_:∀(j:Nat) u,news[j]?=some u→∃ad,a=some ad∧w.cell? (ad.add j)=some u
 rel:∀(i j:Nat) (row:List lC) (c:lC),rows[i]?=some row→row[j]?=some c→∃u,news[i*sz+j]?=some u∧oQ G.H c u∧c.mE=true
theorem uD {sz : Nat} {rows : List (List lC)} (i : Inv G h w) (hb : qS sz h x = some rows) (hx : lT G h x X) : ∃ a news, Src G h w sz rows X a news := by
  unfold qS at hb
  split at hb
  · rename_i rows' tok
    split at hb
    case isFalse => cases hb
    rename_i hall
    simp only [ad0] at hb; subst hb
    have hrl : ∀ r ∈ rows', r.length = sz := fun r hr => by simpa using am7.1 hall r hr
    have hp := hx.rH
    cases hp with
    | slice0 a cap => exact ⟨a, [], ⟨cap, rfl⟩, by simp, by simp, by simp, by simp⟩
    | slice rows b off cap sz' F hr hc hH hk hV =>
      have hszz : 0 < rows'.length → sz' = sz := fun h0 => by
        have hm : rows'[0]? = some rows'[0] := ac6 h0
        rw [← hr _ (af3 hm), hrl _ (af3 hm)]
      refine ⟨some ⟨b, off, none⟩, (aq5 (rows'.length * sz)).map F, ⟨cap, rfl⟩, by simp, hrl, ?_, ?_⟩
      · intro j u hu
        have hj : j < rows'.length * sz := by simpa using (ac1.1 hu).1
        have hpos : 0 < sz := by rcases Nat.eq_zero_or_pos sz with h0 | h0; · rw [h0] at hj; omega
                                 · exact h0
        have hrow : j / sz < rows'.length := (Nat.div_lt_iff_lt_mul hpos).2 hj
        have h1 : rows'[j / sz]? = some rows'[j / sz] := ac6 hrow
        have hl := hrl _ (af3 h1)
        have h2 : rows'[j / sz][j % sz]? = some (rows'[j / sz][j % sz]'(by rw [hl]; exact Nat.mod_lt _ hpos)) := ac6 _
        have hs' := hszz (Nat.lt_of_le_of_lt (Nat.zero_le _) hrow)
        subst hs'
        have h3 := hH _ _ _ _ h1 h2
        rw [show j / sz' * sz' + j % sz' = j by rw [Nat.mul_comm]; exact Nat.div_add_mod j sz'] at h3
        refine ⟨_, rfl, ?_⟩
        rw [add_plain, i.ok _ _ _ h3]
        simp [hj] at hu
        rw [hu]
      · intro i' j row c h1 h2
        have hl := hrl _ (af3 h1)
        have hi' : i' < rows'.length := (ac1.1 h1).1
        have hj' : j < sz := by rw [← hl]; exact (ac1.1 h2).1
        have hs' := hszz (by omega)
        subst hs'
        refine ⟨F (i' * sz' + j), ?_, hV _ _ _ _ h1 h2, hk _ _ _ _ h1 h2⟩
        have : i' * sz' + j < rows'.length * sz' := by
          calc i' * sz' + j < i' * sz' + sz' := by omega
            _ = (i' + 1) * sz' := by rw [Nat.add_mul]; omega
            _ ≤ rows'.length * sz' := ao9 _ hi'
        simp [this]
  · rename_i id off len sz'
    cases hgb : nW h id with
    | none => simp [hgb] at hb
    | some cs =>
      have hid := Fy hgb
      simp only [hgb] at hb
      split at hb
      case isFalse => cases hb
      rename_i hcond
      obtain ⟨rfl, hle⟩ := hcond
      split at hb <;> simp only [ad0, reduceCtorEq] at hb
      rename_i row hrow
      subst hb
      obtain ⟨a, cap, rfl, hlc, ha⟩ := hx.uX
      obtain ⟨C, e, h1, h2, h3, h4⟩ := i.mU id _ hid
      obtain ⟨p1, p2⟩ := p6 hrow
      have hdl : ((cs.drop off).take (len * sz')).length = len * sz' := by rw [ao3, List.length_drop]; omega
      rw [hdl] at p1
      obtain ⟨q1, q2, q3⟩ := qK len sz' row (by omega)
      refine ⟨a, (C.toList.drop off).take (len * sz'), ⟨cap, by rw [q1]⟩, by rw [q1, ao3, List.length_drop, Array.length_toList]; omega, q2, ?_, ?_⟩
      · intro j u hu
        rw [ao0] at hu
        split at hu
        · rename_i hj
          have hpos : 0 < len := by rcases Nat.eq_zero_or_pos len with h0 | h0; · rw [h0] at hj; omega
                                    · exact h0
          obtain ⟨rfl, _⟩ := ha hpos
          refine ⟨_, rfl, ?_⟩
          rw [add_plain, cell_of w _ _ h1]
          rw [am5, al9] at hu
          exact hu
        · cases hu
      · intro i' j r c hi hj
        have hrow' := q3 i' j r c hi hj
        have hlt : i' * sz' + j < len * sz' := by
          have := (ac1.1 hrow').1; omega
        have hget : ∃ c0, ((cs.drop off).take (len * sz'))[i' * sz' + j]? = some c0 := ⟨_, ac6 (by omega)⟩
        obtain ⟨c0, hc0⟩ := hget
        obtain ⟨c', e1, e2⟩ := p2 _ c0 hc0
        rw [hrow'] at e1; cases e1
        have hc1 : cs[off + (i' * sz' + j)]? = some c0 := by
          rw [ao0, if_pos hlt, am5] at hc0; exact hc0
        obtain ⟨_, hrel⟩ := h4 _ c0 hc1
        obtain ⟨z1, z2⟩ := t_ e2 hrel
        have hCl : off + (i' * sz' + j) < C.size := by rw [h2]; exact (ac1.1 hc1).1
        refine ⟨C.getD (off + (i' * sz' + j)) undef, ?_, z1, z2⟩
        rw [ao0, if_pos hlt, am5, al9, Array.getElem?_eq_getElem hCl]
        simp [af2, hCl]
  · rename_i id tot off len sz'
    cases hgb : nV h id tot with
    | none => simp [hgb] at hb
    | some x0 =>
      have hid := qX hgb
      simp only [hgb] at hb
      split at hb
      case isFalse => cases hb
      rename_i hcond
      obtain ⟨rfl, hle⟩ := hcond
      split at hb <;> simp only [ad0, reduceCtorEq] at hb
      rename_i row hrow
      subst hb
      obtain ⟨b, cap, rfl, hnf, htot, hlc, hv⟩ := hx.pY
      obtain ⟨b', cap', C, e, g1, g2, g3, g4, g5, g6, g7, g8, g9⟩ := i.mU id _ hid
      obtain ⟨l0, cap0, k1, _⟩ := hv (by rw [g1]; rfl)
      rw [g1] at k1
      simp only [Value.slice.injEq, ad0, Addr.mk.injEq] at k1
      obtain ⟨⟨rfl, _⟩, _, rfl⟩ := k1
      have hcl : x0.2.length ≤ C.size := by rw [g7, g5]; exact ao9 _ g3
      obtain ⟨p1, p2⟩ := p6 hrow
      have hdl : ((x0.2.drop off).take (len * sz')).length = len * sz' := by rw [ao3, List.length_drop]; omega
      rw [hdl] at p1
      obtain ⟨q1, q2, q3⟩ := qK len sz' row (by omega)
      refine ⟨some ⟨b', off, none⟩, (C.toList.drop off).take (len * sz'), ⟨cap, by rw [q1]⟩, by rw [q1, ao3, List.length_drop, Array.length_toList]; omega, q2, ?_, ?_⟩
      · intro j u hu
        rw [ao0] at hu
        split at hu
        · refine ⟨_, rfl, ?_⟩
          rw [add_plain, cell_of w _ _ g2]
          rw [am5, al9] at hu
          exact hu
        · cases hu
      · intro i' j r c hi hj
        have hrow' := q3 i' j r c hi hj
        have hlt : i' * sz' + j < len * sz' := by
          have := (ac1.1 hrow').1; omega
        have hget : ∃ c0, ((x0.2.drop off).take (len * sz'))[i' * sz' + j]? = some c0 := ⟨_, ac6 (by omega)⟩
        obtain ⟨c0, hc0⟩ := hget
        obtain ⟨c', e1, e2⟩ := p2 _ c0 hc0
        rw [hrow'] at e1; cases e1
        have hc1 : x0.2[off + (i' * sz' + j)]? = some c0 := by
          rw [ao0, if_pos hlt, am5] at hc0; exact hc0
        obtain ⟨_, hrel⟩ := g9 _ c0 hc1
        obtain ⟨z1, z2⟩ := t_ e2 hrel
        have hCl : off + (i' * sz' + j) < C.size := by have := (ac1.1 hc1).1; omega
        refine ⟨C.getD (off + (i' * sz' + j)) undef, ?_, z1, z2⟩
        rw [ao0, if_pos hlt, am5, al9, Array.getElem?_eq_getElem hCl]
        simp [af2, hCl]
  · cases hb
theorem Src.one {sz : Nat} {rows : List (List lC)} {a : Option Addr} {news : List Value} (s : Src G h w sz rows X a news) : ∀ u ∈ news, u.oneCell' = true := by
  intro u hu
  obtain ⟨j, hj⟩ := List.getElem?_of_mem hu
  have hjl : j < rows.length * sz := by rw [← s.len]; exact (ac1.1 hj).1
  have hpos : 0 < sz := by rcases Nat.eq_zero_or_pos sz with h0 | h0; · rw [h0] at hjl; omega
                           · exact h0
  have hrow : j / sz < rows.length := (Nat.div_lt_iff_lt_mul hpos).2 hjl
  have h1 : rows[j / sz]? = some rows[j / sz] := ac6 hrow
  have hl := s.rlen _ (af3 h1)
  have h2 : rows[j / sz][j % sz]? = some (rows[j / sz][j % sz]'(by rw [hl]; exact Nat.mod_lt _ hpos)) := ac6 _
  obtain ⟨u', e1, e2, e3⟩ := s.rel _ _ _ _ h1 h2
  rw [show j / sz * sz + j % sz = j by rw [Nat.mul_comm]; exact Nat.div_add_mod j sz] at e1
  rw [hj] at e1; cases e1
  exact (e2.x7 e3).1
theorem Ar {H:Nat→Nat→Option Value}{rows:List (List lC)}{sz b cap:Nat}{all:List Value}(hr:∀r∈rows,r.length=sz) (hc:rows.length≤cap)
  (hH:∀(k:Nat) u,all[k]?=some u→H b k=some u)
  (hrel:∀(i j:Nat) (row:List lC) (c:lC),rows[i]?=some row→row[j]?=some c→∃u,all[i*sz+j]?=some u∧oQ H c u∧c.mE=true) :
  oQ H (.slice rows .no) (.slice (some ⟨b,0,none⟩) rows.length cap):=by
 refine .slice rows b 0 cap sz (fun k=>all.getD k undef) hr hc ?_ ?_ ?_
 ·intro i j row c h1 h2
  obtain⟨u,e1,_⟩:=hrel i j row c h1 h2
  rw [ar4,hH _ u e1,ae9,e1];rfl
 ·intro i j row c h1 h2;obtain⟨u,_,_,e3⟩:=hrel i j row c h1 h2;exact e3
 ·intro i j row c h1 h2
  obtain⟨u,e1,e2,_⟩:=hrel i j row c h1 h2
  rw [ae9,e1];exact e2
theorem Ig {H:Nat→Nat→Option Value}{A B:List (List lC)}{sz:Nat}{xs ys:List Value}(hxl:xs.length=A.length*sz) (hA:∀r∈A,r.length=sz)
  (h1:∀(i j:Nat) (row:List lC) (c:lC),A[i]?=some row→row[j]?=some c→∃u,xs[i*sz+j]?=some u∧oQ H c u∧c.mE=true)
  (h2:∀(i j:Nat) (row:List lC) (c:lC),B[i]?=some row→row[j]?=some c→∃u,ys[i*sz+j]?=some u∧oQ H c u∧c.mE=true) :
  ∀(i j:Nat) (row:List lC) (c:lC),(A++B)[i]?=some row→row[j]?=some c→∃u,(xs++ys)[i*sz+j]?=some u∧oQ H c u∧c.mE=true:=by
 intro i j row c hi hj
 by_cases hlt:i<A.length
 ·rw [am3 hlt] at hi
  obtain⟨u,e1,e2⟩:=h1 i j row c hi hj
  exact⟨u,by rw [am3 (ac1.1 e1).1];exact e1,e2⟩
 ·rw [af4 (by omega)] at hi
  obtain⟨u,e1,e2⟩:=h2 _ j row c hi hj
  refine⟨u,?_,e2⟩
  have:A.length*sz≤i*sz:=ao9 _ (by omega)
  rw [af4 (by omega),hxl,←e1]
  congr 1
  rw [Nat.sub_mul];omega
theorem Inv.grow (i:Inv G h w) {id n n' sz sz' t t' bb cap':Nat}{all:List Value}{C':Array Value}{e':TypeId}{w':World}(hid:h[id]?=some (.front n sz t)) (hnn:n<n') (hsz:0<n→sz'=sz)
  (os:w'.os=w.os) (tape:w'.tape=w.tape) (output:w'.output=w.output) (size:w.heap.size≤w'.heap.size)
  (heap:∀k,k<w.heap.size→(k=bb→(G.cur id).ownBlock≠some k)→(k=bb→False)→w'.heap[k]?=w.heap[k]?)
  (hbb:(w.heap.size≤bb)∨(G.cur id).ownBlock=some bb)
  (hC:w'.heap[bb]?=some (.cells C' e' (0,0))) (hcap:n'≤cap') (hmax:cap'≤maxLen) (hCs:C'.size=cap'*sz')
  (hsz0:0<sz') (hall:all.length=n'*sz') (hC':∀(k:Nat) u,all[k]?=some u→C'[k]?=some u)
  (hold:∀k v,G.H bb k=some v→all[k]?=some v) (htt:t'≠0→e'+1=t') :
  ∃G',Inv G' (h.set id (.front n' sz' t')) w'∧Ext G h w G' (h.set id (.front n' sz' t')) w'∧(∀b k v,G.H b k=some v→G'.H b k=some v) ∧
   (∀(k:Nat) u,all[k]?=some u→G'.H bb k=some u)∧G'.cur id=.slice (some ⟨bb,0,none⟩) n' cap':=by
 let G':Gh:={ G with H:=fun b k=>if b=bb then all[k]? else G.H b k,cur:=fun j=>if j=id then .slice (some ⟨bb,0,none⟩) n' cap' else G.cur j }
 have hmono:∀b k v,G.H b k=some v→G'.H b k=some v:=by
  intro b k v hv
  show(if b=bb then all[k]? else G.H b k)=some v
  by_cases hb:b=bb
  ·subst hb;rw [if_pos rfl];exact hold k v hv
  ·rw [if_neg hb];exact hv
 have key:=i.step (G':=G') id (.front n sz t) (.front n' sz' t') hid os tape output size
  (fun k hk hne=>heap k hk (fun _=>hne) (fun e=>by
   subst e
   rcases hbb with h1 | h1
   ·omega
   ·exact hne h1))
  (fun j hj=>rfl) (fun j hj=>if_neg hj) hmono
  (fun b k hb hne=>by
   have:b≠bb:=by
    rintro rfl
    rcases hbb with h1 | h1
    ·omega
    ·exact hne h1
   show(if b=bb then all[k]? else G.H b k)=_
   rw [if_neg this])
  (fun b k v hb hv=>by
   change (if b=bb then all[k]? else G.H b k)=some v at hv
   by_cases hbe:b=bb
   ·subst hbe
    rw [if_pos rfl] at hv
    rw [cell_of w' _ _ hC];exact hC' k v hv
   ·rw [if_neg hbe] at hv
    have hlt:=i.wY hv
    rw [World.cell?_of_block (w:=w) (a:=⟨b,k,none⟩) (heap b hlt (fun e=>absurd e hbe) hbe)]
    exact i.ok b k v hv)
  ⟨by omega,fun e=>by omega,rfl,hsz⟩
  (fun _=>.inr ⟨bb,cap',C',e',if_pos rfl,hC,hcap,hmax,hCs,hsz0,fun k hk=>by
   show(if bb=bb then all[k]? else G.H bb k)=none
   rw [if_pos rfl];exact List.getElem?_eq_none (by omega),htt⟩)
  (fun b hb=>by
   have hb:Value.ownBlock (if id=id then .slice (some ⟨bb,0,none⟩) n' cap' else G.cur id)=some b:=hb
   rw [if_pos rfl] at hb
   simp only [Value.ownBlock,ad0] at hb
   subst hb
   exact hbb)
 exact⟨G',key.1,key.2,hmono,fun k u hu=>by show(if bb=bb then all[k]? else G.H bb k)=some u;rw [if_pos rfl];exact hu,if_pos rfl⟩
end
end
section
open Go Go.RowKit
section
variable {P:Program}{G:Gh}{h:lD}{w:World}{x y v:lC}{X Y V:Value}
theorem BY (i:Inv G h w) {rows:List (List lC)}{id n sz:Nat}(hx:lT G h (.slice rows (.own id)) X) {t:Nat}(hid:h[id]?=some (.front n sz t)) (hlen:rows.length=n) :
  X=G.cur id∧(∀r∈rows,r.length=sz)∧((n=0∧G.cur id=.slice none 0 0)∨∃b cap C e,G.cur id=.slice (some ⟨b,0,none⟩) n cap∧w.heap[b]?=some (.cells C e (0,0)) ∧
   n≤cap∧cap≤maxLen∧C.size=cap*sz∧0<sz∧(∀k,n*sz≤k→G.H b k=none) ∧
   (∀(i' j:Nat) (row:List lC) (c:lC),rows[i']?=some row→row[j]?=some c→∃u,(C.toList.take (n*sz))[i'*sz+j]?=some u∧oQ G.H c u∧c.mE=true)∧(t≠0→e+1=t)):=by
 cases hx with
 | p _ _ hp=>cases hp
 | ownv _ _ hp hb =>
  obtain⟨b,h1,_,h3⟩:=hb
  rw [hid] at h1;cases h1;exact absurd rfl (h3 _ _ _)
 | own _ _ n' sz' _ hp hf hn hr hc =>
  rw [hid] at hf
  simp only [ad0,mC.front.injEq] at hf
  obtain⟨rfl,rfl,rfl⟩:=hf
  have hX:=hc hlen
  refine⟨hX,hr,?_⟩
  rcases i.mU id _ hid with h1 | ⟨b,cap,C,e,h1,h2,h3,h4,h5,h50,h6,h7⟩
  ·exact .inl h1
  ·refine .inr ⟨b,cap,C,e,h1,h2,h3,h4,h5,h50,h6,fun i' j row c hi hj=>?_,h7⟩
   rw [hX,h1] at hp
   generalize hV:Value.slice (some ⟨b,0,none⟩) n cap=V0 at hp
   cases hp with
   | slice0 a cap=>simp at hi
   | slice rows b' off cap' sz2 F hr2 hc2 hH hk hV2 =>
    simp only [Value.slice.injEq,ad0,Addr.mk.injEq] at hV
    obtain⟨⟨rfl,rfl,_⟩,hn',rfl⟩:=hV
    have hs:sz2=sz:=by rw [←hr2 row (af3 hi),hr row (af3 hi)]
    subst hs
    have hcell:=i.ok _ _ _ (hH i' j row c hi hj)
    rw [cell_of w _ _ h2,ar4] at hcell
    have hlt:i'*sz2+j<n*sz2:=by
     have hi':i'<rows.length:=(ac1.1 hi).1
     have hj':j<sz2:=by rw [←hr2 row (af3 hi)];exact(ac1.1 hj).1
     calc i'*sz2+j<i'*sz2+sz2:=by omega
      _=(i'+1)*sz2:=by rw [Nat.add_mul];omega
      _≤n*sz2:=ao9 _ (by omega)
    refine⟨F (i'*sz2+j),?_,hV2 i' j row c hi hj,hk i' j row c hi hj⟩
    rw [ao0,if_pos hlt,al9]
    exact hcell
theorem qW {t ty e:TypeId}{ti:TypeInfo}(ht:P.underlying t=some (.slice e)) (hi:P.info? e=some ti) (a b:Option Addr) (n cap c:Nat) (hn:n≤cap) :
  (Builtin.append_ #[t,t] ty #[.slice a n cap,.slice b 0 c]).run P w=.ok (.slice a n cap) w:=by
 cases a <;> cases b <;> simp [Builtin.append_,run_underlying ht,Go.sizeOf,Go.typeInfo,hi,Builtin.lenOf,Builtin.firstCells,hn,loadCells,loadCellsFrom,storeCells,Sem.run_pure]
theorem Inv.An (i:Inv G h w):∃G',Inv G' (h++[.front 0 0]) w∧Ext G h w G' (h++[.front 0 0]) w∧G'.cur h.length=.slice none 0 0∧G'.H=G.H:=by
 let G':Gh:={ G with cur:=fun j=>if j=h.length then .slice none 0 0 else G.cur j }
 have key:=i.push (G':=G') (ext:=[.front 0 0]) (w':=w) rfl rfl rfl (ai1 _) (fun _ _=>rfl) (fun _ _=>rfl) (fun id hid=>if_neg (by omega)) (fun _ _ _ h=>h) (fun _ _ _=>rfl)
  (fun b k v hb hv=>by have:=i.wY (b:=b) (k:=k) (v:=v) hv;omega)
  (fun j bl hj m=>by
   cases j with
   | zero=>simp at hj;subst hj;exact .inl ⟨rfl,if_pos rfl⟩
   | succ j=>simp at hj)
  (fun j bl b hj ho=>by
   cases j with
   | zero =>
    simp at hj;subst hj
    have ho:Value.ownBlock (if h.length+0=h.length then .slice none 0 0 else G.cur (h.length+0))=some b:=ho
    rw [if_pos (as3 _)] at ho;cases ho
   | succ j=>simp at hj)
  (fun j j' bl bl' b hj hj' _ _=>by
   have h1:j<1:=by simpa using (ac1.1 hj).1
   have h2:j'<1:=by simpa using (ac1.1 hj').1
   omega)
 exact⟨G',key.1,key.2,if_pos rfl,rfl⟩
theorem N_ {G':Gh}(hc:G'.cur h.length=.slice none 0 0):lT G' (h++[.front 0 0]) (.slice [] (.own h.length)) (.slice none 0 0) :=
 .own (t:=0) [] h.length 0 0 _ (.slice0 none 0) (by simp) (ai1 _) (by simp) (fun _=>hc.symm)
theorem IW {t ty e:TypeId}{sz bytes:Nat}{z r:lC}{h':lD}(i:Inv G h w) (ht:P.underlying t=some (.slice e)) (hn:nQ P e=some sz) (hby:tM P e=some bytes)
  (hz:pT P e=some z) (hzj:z.oC=false) (hzl:z.cells.length=sz) (hsz:sz≠0) (hb:nC sz bytes h x y=some (r,h')) (hx:lT G h x X) (hy:lT G h y Y) :
  ∃V w' G',(Builtin.append_ #[t,t] ty #[X,Y]).run P w=.ok V w'∧Inv G' h' w'∧Ext G h w G' h' w'∧lT G' h' r V:=by
 obtain⟨ti,hti,hts,htb,Z,hzz,hZs⟩:∃ti,P.info? e=some ti∧ti.size=sz∧ti.bytes=bytes∧∃Z,ti.zero=some Z∧Z.cells.size=sz:=by
  unfold nQ at hn;unfold tM at hby;unfold pT at hz
  cases hi:P.info? e with
  | none=>simp [hi] at hn
  | some ti =>
   simp [hi] at hn hby hz
   obtain⟨Z,hZ1,hZ2⟩:=hz
   refine⟨ti,rfl,hn,hby,Z,hZ1,?_⟩
   subst hZ2
   rw [←hzl];exact(rX hzj (rO G h Z)).1.symm
 unfold nC at hb
 split at hb
 ·-- the holder of a token
  rename_i rows id new hnew
  obtain⟨a,news,src⟩:=uD i hnew hy
  obtain⟨capY,hYf⟩:=src.form
  split at hb
  ·rename_i n sz0 hid
   split at hb
   case isFalse=>cases hb
   rename_i hcond
   obtain⟨hlen,hszz,hbytes,hsmall⟩:=hcond
   obtain⟨hX,hrl,hcur⟩:=BY i hx hid hlen
   split at hb
   ·rename_i hm
    simp only [ad0,ar1] at hb
    obtain⟨rfl,rfl⟩:=hb
    refine⟨X,w,G,?_,i,Ext.refl G h w,hx⟩
    rw [hYf,hm]
    rcases hcur with ⟨_,hc⟩ | ⟨b,cap,C,e0,hc,_,hle,_⟩
    ·rw [hX,hc];exact qW ht hti none a 0 0 capY (ai1 _)
    ·rw [hX,hc];exact qW ht hti _ a n cap capY hle
   ·rename_i hm
    simp only [ad0,ar1] at hb
    obtain⟨rfl,rfl⟩:=hb
    have hposn:0<news.length:=by rw [src.len];exact Nat.mul_pos (by omega) (by omega)
    obtain⟨ad,had,_⟩:=src.at_ 0 _ (ac6 hposn)
    subst had
    have hnews:∀j u,news[j]?=some u→w.cell? (ad.add j)=some u:=fun j u hu=>by
     obtain⟨ad',e1,e2⟩:=src.at_ j u hu;cases e1;exact e2
    have hone:=src.one
    have hnl:news.length=new.length*ti.size:=by rw [hts];exact src.len
    have fin:∀(bb cap':Nat) (xs:List Value) (G':Gh),xs.length=n*sz→cap'≥n+new.length→AT G h G' (h.set id (.front (n+new.length) sz)) →
      (∀(k:Nat) u,(xs++news)[k]?=some u→G'.H bb k=some u)→G'.cur id=.slice (some ⟨bb,0,none⟩) (n+new.length) cap' →
      (∀(i' j:Nat) (row:List lC) (c:lC),rows[i']?=some row→row[j]?=some c→∃u,xs[i'*sz+j]?=some u∧oQ G.H c u∧c.mE=true) →
      (∀r∈rows,r.length=sz) →
      lT G' (h.set id (.front (n+new.length) sz)) (.slice (rows++new) (.own id)) (.slice (some ⟨bb,0,none⟩) (n+new.length) cap'):=by
     intro bb cap' xs G' hxl hc hm' hH hcur' hcells hrl'
     have hidl:id<h.length:=(ac1.1 hid).1
     have hrl2:∀r∈rows++new,r.length=sz:=fun r hr=>(List.mem_append.1 hr).elim (hrl' r) (src.rlen r)
     have hlen2:(rows++new).length=n+new.length:=by rw [List.length_append,hlen]
     refine .own (t:=0) _ id (n+new.length) sz _ ?_ (by simp [hidl]) (by omega) hrl2 (fun _=>hcur'.symm)
     have:=Ar (H:=G'.H) (rows:=rows++new) (sz:=sz) (b:=bb) (cap:=cap') (all:=xs++news) hrl2 (by omega) hH
      (Ig (by rw [hlen];exact hxl) hrl' (fun i' j row c h1 h2=>by obtain⟨u,e1,e2,e3⟩:=hcells i' j row c h1 h2;exact⟨u,e1,e2.mono hm'.hmono,e3⟩)
       (fun i' j row c h1 h2=>by obtain⟨u,e1,e2,e3⟩:=src.rel i' j row c h1 h2;exact⟨u,e1,e2.mono hm'.hmono,e3⟩))
     rwa [hlen2] at this
    rw [hX,hYf]
    rcases hcur with ⟨rfl,hc⟩ | ⟨b,cap,C,e0,hc,hC,hle,hmx,hCs,hs0,hHn,hcells,_⟩
    ·-- nil so far
     rw [hc]
     have hrun:=run_append_nil (P:=P) w t ty e ti Z ht hti hzz ad new.length capY news hnl hnews (by omega) (by omega) (by rw [htb];rw [ar4] at hbytes;omega)
     have hcapg:=grownCap_ge w new.length 0 e
     have hcapm:=grownCap_le_maxLen w new.length 0 e (by simp only [maxLen];omega)
     obtain⟨G',g1,g2,g3,g4,g5⟩:=i.grow (id:=id) (n:=0) (n':=0+new.length) (t':=0) (sz:=sz0) (sz':=sz) (bb:=w.heap.size) (cap':=grownCap w new.length 0 e) (all:=news)
      (w':=w.drew.alloc (.cells (news.toArray++Builtin.zeroCells Z.cells (grownCap w new.length 0 e-new.length)) e)) hid (by omega) (by omega) rfl rfl rfl (by simp)
      (fun k hk _ _=>nE w.drew _ k hk) (.inl (ai1 _)) (heap_alloc_new w.drew _) (by omega) hcapm
      (by simp only [Array.size_append,List.size_toArray,size_zeroCells,hZs,src.len,←Nat.add_mul];congr 1;omega)
      (by omega) (by rw [src.len];simp) (fun k u hu=>by
       rw [Array.getElem?_append_left (by simpa using (ac1.1 hu).1)];simpa using hu)
      (fun k v hv=>by have:=i.wY hv;omega) (fun h=>absurd rfl h)
     refine⟨_,_,G',hrun,g1,g2,?_⟩
     have:=fin w.heap.size (grownCap w new.length 0 e) [] G' (by simp) (by omega) g2.toMono (by simpa using g4) g5 (fun i' j row c h1 _=>by
      have:rows=[]:=aq9 hlen
      subst this;simp at h1) (fun r hr=>by
      have:rows=[]:=aq9 hlen
      subst this;cases hr)
     simpa using this
    ·have hs:sz0=sz:=by omega
     rw [hc]
     by_cases hroom:n+new.length≤cap
     ·subst hs
      have hfit:n*ti.size+news.length≤C.size:=by rw [hts,src.len,hCs,←Nat.add_mul];exact ao9 _ hroom
      have hf:=run_firstCells_some (P:=P) w ti.size new.length ad new.length capY news hnl hnews
      have hst:=run_storeCells_at P b (n*ti.size) e0 news 0 C w hC (by simpa using hfit) hone
      simp only [as3] at hst
      have hrun:(Builtin.append_ #[t,t] ty #[.slice (some ⟨b,0,none⟩) n cap,.slice (some ad) new.length capY]).run P w =
        .ok (.slice (some ⟨b,0,none⟩) (n+new.length) cap) (w.setRow b (C.toList.take (n*ti.size)++news++C.toList.drop (n*ti.size+news.length)).toArray):=by
       simp [Builtin.append_,run_underlying ht,Go.sizeOf,Go.typeInfo,hti,Builtin.lenOf,hroom,hf,Addr.add_lit,hst]
      rw [hts] at hrun hfit
      have hxl:(C.toList.take (n*sz0)).length=n*sz0:=by rw [ao3,Array.length_toList];omega
      obtain⟨G',g1,g2,g3,g4,g5⟩:=i.grow (id:=id) (n:=n) (n':=n+new.length) (t':=0) (sz:=sz0) (sz':=sz0) (bb:=b) (cap':=cap) (all:=C.toList.take (n*sz0)++news)
       (C':=(C.toList.take (n*sz0)++news++C.toList.drop (n*sz0+news.length)).toArray) (e':=e0)
       (w':=w.setRow b (C.toList.take (n*sz0)++news++C.toList.drop (n*sz0+news.length)).toArray) hid (by omega) (fun _=>rfl) (by simp) (by simp) (by simp) (by simp)
       (fun k hk _ hne=>setRow_other w b k _ hne) (.inr (by rw [hc];rfl)) (setRow_heap w b C _ e0 _ hC) hroom hmx
       (by simp;omega) hs0
       (by rw [List.length_append,hxl,src.len,Nat.add_mul]) (fun k u hu=>by
        rw [List.getElem?_toArray,am3 (ac1.1 hu).1];exact hu)
       (fun k v hv=>by
        have hk:k<n*sz0:=Classical.byContradiction fun hk=>by rw [hHn k (by omega)] at hv;cases hv
        have:=i.ok _ _ _ hv
        rw [cell_of w _ _ hC] at this
        rw [am3 (by omega),ao0,if_pos hk,al9];exact this) (fun h=>absurd rfl h)
      exact⟨_,_,G',hrun,g1,g2,fin b cap _ G' hxl hroom g2.toMono g4 g5 hcells hrl⟩
     ·subst hs
      have hxl:(C.toList.take (n*sz0)).length=n*sz0:=by
       rw [ao3,Array.length_toList,hCs]
       have:n*sz0≤cap*sz0:=ao9 _ hle
       omega
      have hxc:∀j u,(C.toList.take (n*sz0))[j]?=some u→w.cell? ((⟨b,0,none⟩:Addr).add j)=some u:=by
       intro j u hu
       rw [ao0] at hu
       split at hu
       ·rw [add_plain,cell_of w _ _ hC,ar4];rwa [al9] at hu
       ·cases hu
      have hrun:=run_append_grow (P:=P) w t ty e ti Z ht hti hzz ⟨b,0,none⟩ n cap (C.toList.take (n*sz0)) (by rw [hts];exact hxl) hxc ad new.length capY news hnl hnews (by omega) (by omega)
       (growslice_fits (by omega) (by rw [htb];exact hbytes))
      have hcapg:=grownCap_ge w (n+new.length) cap e
      have hcapm:=grownCap_le_maxLen w (n+new.length) cap e (by simp only [maxLen];omega)
      obtain⟨G',g1,g2,g3,g4,g5⟩:=i.grow (id:=id) (n:=n) (n':=n+new.length) (t':=0) (sz:=sz0) (sz':=sz0) (bb:=w.heap.size) (cap':=grownCap w (n+new.length) cap e) (all:=C.toList.take (n*sz0)++news)
       (w':=w.drew.alloc (.cells ((C.toList.take (n*sz0)).toArray++news.toArray++Builtin.zeroCells Z.cells (grownCap w (n+new.length) cap e-(n+new.length))) e)) hid (by omega)
       (fun _=>rfl) rfl rfl rfl (by simp)
       (fun k hk _ _=>nE w.drew _ k hk) (.inl (ai1 _)) (heap_alloc_new w.drew _) (by omega) hcapm
       (by simp only [Array.size_append,List.size_toArray,size_zeroCells,hZs,src.len,hxl,←Nat.add_mul];congr 1;omega)
       (by omega) (by rw [List.length_append,hxl,src.len,Nat.add_mul]) (fun k u hu=>by
        have hk:=(ac1.1 hu).1
        rw [Array.getElem?_append_left (by simpa using hk),List.append_toArray,List.getElem?_toArray];exact hu)
       (fun k v hv=>by have:=i.wY hv;omega) (fun h=>absurd rfl h)
      exact⟨_,_,G',hrun,g1,g2,fin w.heap.size _ _ G' hxl (by omega) g2.toMono g4 g5 hcells hrl⟩
  ·cases hb
 ·-- a nil slice without a token
  rename_i new hnew
  obtain⟨a,news,src⟩:=uD i hnew hy
  obtain⟨capY,hYf⟩:=src.form
  have hX:=hx.BW
  split at hb
  ·rename_i hm
   simp only [ad0,ar1] at hb
   obtain⟨rfl,rfl⟩:=hb
   refine⟨X,w,G,?_,i,Ext.refl G h w,hx⟩
   rw [hYf,hm,hX]
   exact qW ht hti none a 0 0 capY (ai1 _)
  ·rename_i hm
   split at hb
   case isFalse=>cases hb
   rename_i hcond
   obtain⟨hbytes,hsmall⟩:=hcond
   simp only [ad0,ar1] at hb
   obtain⟨rfl,rfl⟩:=hb
   have hposn:0<news.length:=by rw [src.len];exact Nat.mul_pos (by omega) (by omega)
   obtain⟨ad,had,_⟩:=src.at_ 0 _ (ac6 hposn)
   subst had
   have hnews:∀j u,news[j]?=some u→w.cell? (ad.add j)=some u:=fun j u hu=>by
    obtain⟨ad',e1,e2⟩:=src.at_ j u hu;cases e1;exact e2
   have hnl:news.length=new.length*ti.size:=by rw [hts];exact src.len
   obtain⟨G1,i1,x1,hc1,hH1⟩:=i.An
   rw [hX,hYf]
   have hrun:=run_append_nil (P:=P) w t ty e ti Z ht hti hzz ad new.length capY news hnl hnews (by omega) (by omega) (by rw [htb];omega)
   have hcapg:=grownCap_ge w new.length 0 e
   have hcapm:=grownCap_le_maxLen w new.length 0 e (by simp only [maxLen];omega)
   obtain⟨G',g1,g2,g3,g4,g5⟩:=i1.grow (id:=h.length) (n:=0) (n':=new.length) (t:=0) (t':=0) (sz:=0) (sz':=sz) (bb:=w.heap.size) (cap':=grownCap w new.length 0 e) (all:=news)
    (w':=w.drew.alloc (.cells (news.toArray++Builtin.zeroCells Z.cells (grownCap w new.length 0 e-new.length)) e)) (by simp) (by omega) (by omega) rfl rfl rfl (by simp)
    (fun k hk _ _=>nE w.drew _ k hk) (.inl (ai1 _)) (heap_alloc_new w.drew _) (by omega) hcapm
    (by simp only [Array.size_append,List.size_toArray,size_zeroCells,hZs,src.len,←Nat.add_mul];congr 1;omega)
    (by omega) src.len (fun k u hu=>by
     rw [Array.getElem?_append_left (by simpa using (ac1.1 hu).1)];simpa using hu)
    (fun k v hv=>by have:=i1.wY hv;omega) (fun h=>absurd rfl h)
   have hset:(h++[mC.front 0 0]).set h.length (.front new.length sz)=h++[.front new.length sz]:=by simp
   rw [hset] at g1 g2
   refine⟨_,_,G',hrun,g1,x1.trans g2,?_⟩
   have m:=(x1.trans g2).toMono
   refine .own (t:=0) _ h.length new.length sz _ ?_ (by simp) (ai1 _) src.rlen (fun _=>g5.symm)
   exact Ar src.rlen hcapg (fun k u hu=>g4 k u hu) (fun i' j row c h1 h2=>by
    obtain⟨u,e1,e2,e3⟩:=src.rel i' j row c h1 h2;exact⟨u,e1,e2.mono m.hmono,e3⟩)
 ·cases hb
end
end
section
open Go Go.RowKit
section
variable {P:Program}{G:Gh}{h:lD}{w:World}{x y v:lC}{X Y V:Value}
theorem Inv.newAt (i:Inv G h w) {id n:Nat}{v p:lC}{h':lD}{Z:Value}(t:TypeId) (hb:vT id n h v=some (p,h')) (hr:lT G h v Z) :
  ∃G',Inv G' h' (w.alloc (.cells Z.cells t))∧Ext G h w G' h' (w.alloc (.cells Z.cells t))∧lT G' h' p (.pointer (some ⟨w.heap.size,0,none⟩))∧Z.cells.size=n:=by
 unfold vT at hb
 simp only [] at hb
 split at hb
 ·rename_i hid
  split at hb
  case isFalse=>cases hb
  rename_i hcond
  obtain⟨hlen,hall⟩:=hcond
  simp only [ad0,ar1] at hb
  obtain⟨rfl,rfl⟩:=hb
  obtain⟨c1,c2⟩:=wR hr hall
  have hidl:id<h.length:=(ac1.1 hid).1
  let G':Gh:={ G with mU:=fun j=>if j=id then w.heap.size else G.mU j }
  have key:=i.step (G':=G') (w':=w.alloc (.cells Z.cells t)) id .free (.cells v.cells) hid rfl rfl rfl (by simp) (fun k hk _=>nE w _ k hk) (fun j hj=>if_neg hj) (fun _ _=>rfl)
   (fun _ _ _ hh=>hh) (fun _ _ _ _=>rfl) (fun b k v hb hv=>by
    rcases hb with hb | hb
    ·have:=i.wY (b:=b) (k:=k) (v:=v) hv;omega
    ·cases hb) trivial
   (fun m=>⟨Z.cells,t,by show(w.alloc _).heap[if id=id then w.heap.size else _]?=_;rw [if_pos rfl];exact heap_alloc_new w _,by omega,
    fun k=>by show G.H (if id=id then w.heap.size else _) k=none;rw [if_pos rfl];exact i.CB (ai1 _),fun j u hu=>⟨(c2 j u hu).1,(c2 j u hu).2.mono m⟩⟩)
   (fun b hb=>by
    have hb:some (if id=id then w.heap.size else G.mU id)=some b:=hb
    rw [if_pos rfl] at hb;cases hb;exact .inl (ai1 _))
  refine⟨G',key.1,key.2,?_,by omega⟩
  have hp:=lT.ptr (G:=G') (h:=h.set id (.cells v.cells)) id 0 ⟨.cells v.cells,by simp [hidl],by simp⟩
  have he:G'.mU id=w.heap.size:=if_pos rfl
  rwa [he] at hp
 ·cases hb
theorem Inv.WN (i:Inv G h w) {id len sz:Nat}{cs row:List lC}{C:Array Value}(e:TypeId) (hid:h[id]?=some .free) (hc:FO G h cs C) (hp:nP cs=some row) (hl:C.size=len*sz) (hmax:len≤maxLen) (hsz0:0<sz) :
  ∃G',Inv G' (h.set id (.front len sz)) (w.alloc (.cells C e))∧Ext G h w G' (h.set id (.front len sz)) (w.alloc (.cells C e)) ∧
   lT G' (h.set id (.front len sz)) (.slice (rowsOf len sz row) (.own id)) (.slice (some ⟨w.heap.size,0,none⟩) len len):=by
 obtain⟨p1,p2⟩:=p6 hp
 obtain⟨c1,c2⟩:=hc
 have hidl:id<h.length:=(ac1.1 hid).1
 have hHlt:∀{b k v},G.H b k=some v→b≠w.heap.size:=fun hv=>by have:=i.wY hv;omega
 have hmono:∀b k v,G.H b k=some v→(G.qD id w.heap.size C (.slice (some ⟨w.heap.size,0,none⟩) len len)).H b k=some v:=by
  intro b k v hv;simp only [Gh.qD,if_neg (hHlt hv),hv]
 have key:=i.step (G':=G.qD id w.heap.size C (.slice (some ⟨w.heap.size,0,none⟩) len len)) (w':=w.alloc (.cells C e)) id .free (.front len sz) hid
  rfl rfl rfl (by simp) (fun k hk _=>nE w _ k hk) (fun j hj=>rfl) (fun j hj=>by simp only [Gh.qD];rw [if_neg hj]) hmono
  (fun b k hb _=>by simp only [Gh.qD];rw [if_neg (by omega)])
  (fun b k v _ hv=>by
   by_cases hbe:b=w.heap.size
   ·subst hbe
    simp only [Gh.qD,if_true] at hv
    rw [cell_of _ _ _ (heap_alloc_new w _),hv]
   ·simp only [Gh.qD,if_neg hbe] at hv
    have hlt:=i.wY hv
    rw [World.cell?_of_block (w:=w) (a:=⟨b,k,none⟩) (nE w _ b hlt)]
    exact i.ok b k v hv) trivial
  (fun m=>.inr ⟨w.heap.size,len,C,e,by simp [Gh.qD],heap_alloc_new w _,ai1 _,hmax,hl,hsz0,fun k hk=>by
    simp only [Gh.qD,if_true]
    exact Array.getElem?_eq_none (by omega),fun h=>absurd rfl h⟩)
  (fun b ho=>by simp only [mL,Gh.qD,if_true,Value.ownBlock,ad0] at ho;exact .inl (by omega))
 refine⟨_,key.1,key.2,?_⟩
 have hlen:(rowsOf len sz row).length=len:=(qK len sz row (by omega)).1
 refine .own (t:=0) _ id len sz _ ?_ (by simp [hidl]) (by omega) (qK len sz row (by omega)).2.1 (fun _=>by simp [Gh.qD])
 refine zQ (F:=fun j=>C.getD j undef) (by omega) (ai1 _) fun j c hj hlt=>?_
 have hjl:j<C.size:=by omega
 obtain⟨c0,hc0⟩:∃c0,cs[j]?=some c0:=⟨cs[j]'(by omega),ac6 (by omega)⟩
 obtain⟨c',e1,e2⟩:=p2 j c0 hc0
 rw [hj] at e1;cases e1
 obtain⟨q1,q2⟩:=t_ e2 (c2 j c0 hc0)
 refine⟨?_,q1.mono hmono,q2⟩
 simp [Gh.qD,af2,hjl]
theorem Cb {t e:TypeId}{id len sz:Nat}{z r:lC}{h':lD}{parts:Array (Nat×Operand)}{f:Operand→lC}{F:Operand→Value}
  (i:Inv G h w) (ht:P.underlying t=some (.slice e)) (hz:pT P e=some z) (hn:nQ P e=some sz) (hsz:sz≠0) (hle:len*sz≤16777216) (hf:∀o,lT G h (f o) (F o)) (hzj:z.oC=false)
  (hb:pZ id len sz z.cells (parts.toList.map fun p=>(p.1,f p.2)) h=some (r,h')) :
  ∃V w' G',(Instr.buildSlice t len (parts.map fun(i,x)=>(i,F x))).run P w=.ok V w'∧Inv G' h' w'∧Ext G h w G' h' w'∧lT G' h' r V:=by
 unfold pZ at hb
 split at hb
 ·rename_i rows hid hrows
  simp only [ad0,ar1] at hb
  obtain⟨rfl,rfl⟩:=hb
  obtain⟨cs,row,C,h1,rfl,h3,h4,h5,h6⟩:=w_ (G:=G) (h:=h) (w:=w) ht hz hn hsz hle hf hzj hrows
  obtain⟨G',g1,g2,g3⟩:=i.WN e hid h3 h1 h4 h5 (by omega)
  exact⟨_,_,G',h6,g1,g2,g3⟩
 ·cases hb
theorem KA {t:TypeId}{id n:Nat}{p:lC}{h':lD}(i:Inv G h w) (hb:vT id n h x=some (p,h')) (hx:lT G h x X) :
  ∃V w' G',(Instr.box t X).run P w=.ok V w'∧Inv G' h' w'∧Ext G h w G' h' w'∧lT G' h' p V:=by
 obtain⟨G',h1,h2,h3,_⟩:=i.newAt t hb hx
 exact⟨_,_,G',by simp [Instr.box,newVar,newRow,Sem.run_pure],h1,h2,h3⟩
theorem GH {t:TypeId}{id n:Nat}{z p:lC}{h':lD}(i:Inv G h w) (hz:pT P t=some z) (hb:vT id n h z=some (p,h')) :
  ∃V w' G',(Instr.alloc t true (.tuple #[])).run P w=.ok V w'∧Inv G' h' w'∧Ext G h w G' h' w'∧lT G' h' p V:=by
 obtain⟨Z,hz1,hz2⟩:=pJ (P:=P) (G:=G) (h:=h) (w:=w) hz
 obtain⟨G',h1,h2,h3,_⟩:=i.newAt t hb hz2
 refine⟨_,_,G',?_,h1,h2,h3⟩
 simp [Instr.alloc,hz1,newVar,newRow,Sem.run_pure]
end
end
section
open Go Go.RowKit
section
variable {P:Program}{G:Gh}{h:lD}{w:World}{x y v:lC}{X Y V:Value}
theorem Inv.WM (i:Inv G h w) {cs:List lC}{C:Array Value}(e:TypeId) (hc:FO G h cs C) (hk:∀u∈cs,u.mE=true) :
  ∃G',Inv G' (h++[.cells cs]) (w.alloc (.cells C e))∧Ext G h w G' (h++[.cells cs]) (w.alloc (.cells C e))∧G'.mU h.length=w.heap.size:=by
 obtain⟨c1,c2⟩:=hc
 refine⟨{ G with mU:=fun j=>if j=h.length then w.heap.size else G.mU j },?_⟩
 have key:=i.push (G':={ G with mU:=fun j=>if j=h.length then w.heap.size else G.mU j }) (ext:=[.cells cs]) (w':=w.alloc (.cells C e))
  rfl rfl rfl (by simp) (fun k hk=>nE w _ k hk) (fun id hid=>by show(if id=h.length then _ else _)=_;rw [if_neg (by omega)]) (fun id hid=>rfl) (fun _ _ _ hh=>hh) (fun _ _ _=>rfl)
  (fun b k v hb hv=>by have:=i.wY (b:=b) (k:=k) (v:=v) hv;omega)
  (fun j bl hj m=>by
   cases j with
   | zero =>
    simp at hj;subst hj
    refine⟨C,e,by simp only [as3,if_true];exact heap_alloc_new w _,by omega,fun k=>by simp only [as3,if_true];exact i.CB (ai1 _),fun j u hu=>?_⟩
    exact⟨hk u (af3 hu),(c2 j u hu).mono m⟩
   | succ j=>simp at hj)
  (fun j bl b hj ho=>by
   cases j with
   | zero=>simp at hj;subst hj;simp only [mL,as3,if_true,ad0] at ho;omega
   | succ j=>simp at hj)
  (fun j j' bl bl' b hj hj' _ _=>by
   have h1:j<1:=by simpa using (ac1.1 hj).1
   have h2:j'<1:=by simpa using (ac1.1 hj').1
   omega)
 exact⟨key.1,key.2,by simp⟩
theorem Eu {t e:TypeId}{sz by_:Nat}{z r:lC}{h':lD}(i:Inv G h w) (ht:P.underlying t=some (.slice e)) (hn:nQ P e=some sz) (hby:tM P e=some by_) (hz:pT P e=some z)
  (hj:z.oC=false) (hl:z.cells.length=sz) (hk:z.cells.all lC.mE=true) (hb:qM sz by_ z.cells x h=some (r,h')) {k k':IntKind}{n:Int}(hxn:x=.int k n) (hX:X=.int k n) (hY:Y=.int k' n) :
  ∃V w' G',(Instr.makeSlice t X Y).run P w=.ok V w'∧Inv G' h' w'∧Ext G h w G' h' w'∧lT G' h' r V:=by
 subst hxn;subst hX;subst hY
 simp only [qM] at hb
 split at hb
 case isFalse=>cases hb
 rename_i hcond
 obtain⟨hn0,hbytes,hmax⟩:=hcond
 simp only [ad0,ar1] at hb
 obtain⟨rfl,rfl⟩:=hb
 obtain⟨m,rfl⟩:=Int.eq_ofNat_of_zero_le hn0
 simp only [Int.toNat_natCast] at *
 unfold nQ at hn;unfold tM at hby;unfold pT at hz
 cases hi:P.info? e with
 | none=>simp [hi] at hn
 | some ti =>
  simp only [hi,Option.map_some,ad0,Option.bind_some,af1] at hn hby hz
  obtain⟨Z,hZ,hz⟩:=hz
  have hrun:=run_make (P:=P) w t e ti Z ht hi hZ k k' m m hn0 (Int.le_refl _) (by
   rw [hby]
   have:((m*by_:Nat):Int)≤140737488355328:=by omega
   rw [Int.natCast_mul] at this
   rw [Int.mul_comm];omega) (by omega)
  have hrz:lT G h z Z:=by rw [←hz];exact rO G h Z
  have hcz:=rX hj hrz
  have hrc:=uK (G:=G) (h:=h) hcz m
  have hmade:madeCells Z.cells ((m:Int).toNat*ti.size)=(Array.range (m*Z.cells.size)).map fun j=>Z.cells[j%Z.cells.size]! := by
   rw [hn,←hl,hcz.1];simp [madeCells]
  rw [hmade] at hrun
  obtain⟨G',h1,h2,h3⟩:=i.WM e hrc (fun u hu=>by
   obtain⟨l,hl1,hl2⟩:=List.mem_flatten.1 hu
   rw [(List.mem_replicate.1 hl1).2] at hl2
   exact am7.1 hk u hl2)
  refine⟨_,_,G',hrun,h1,h2,?_⟩
  have:=lT.mslice (G:=G') (h:=h++[.cells (al7 m z.cells).flatten]) h.length 0 m sz m ⟨.cells (al7 m z.cells).flatten,by simp,by simp⟩ (ai1 _)
  rw [h3] at this
  simpa using this
theorem Inv.aiX (i:Inv G h w):∃G',Inv G' (h++[.map []]) (w.alloc (.map #[] 0))∧Ext G h w G' (h++[.map []]) (w.alloc (.map #[] 0))∧lT G' (h++[.map []]) (.map h.length) (.map (some w.heap.size)):=by
 refine⟨{ G with mU:=fun j=>if j=h.length then w.heap.size else G.mU j },?_⟩
 have key:=i.push (G':={ G with mU:=fun j=>if j=h.length then w.heap.size else G.mU j }) (ext:=[.map []]) (w':=w.alloc (.map #[] 0))
  rfl rfl rfl (by simp) (fun k hk=>nE w _ k hk) (fun id hid=>by show(if id=h.length then _ else _)=_;rw [if_neg (by omega)]) (fun id hid=>rfl) (fun _ _ _ hh=>hh) (fun _ _ _=>rfl)
  (fun b k v hb hv=>by have:=i.wY (b:=b) (k:=k) (v:=v) hv;omega)
  (fun j bl hj m=>by
   cases j with
   | zero =>
    simp at hj;subst hj
    refine⟨#[],0,by simp only [as3,if_true];exact(MapKept.heap_alloc w _).1,rfl,fun k=>by simp only [as3,if_true];exact i.CB (ai1 _),by simp,MapKept.stamped_empty 0⟩
   | succ j=>simp at hj)
  (fun j bl b hj ho=>by
   cases j with
   | zero=>simp at hj;subst hj;simp only [mL,as3,if_true,ad0] at ho;omega
   | succ j=>simp at hj)
  (fun j j' bl bl' b hj hj' _ _=>by
   have h1:j<1:=by simpa using (ac1.1 hj).1
   have h2:j'<1:=by simpa using (ac1.1 hj').1
   omega)
 refine⟨key.1,key.2,?_⟩
 have:=lT.map (G:={ G with mU:=fun j=>if j=h.length then w.heap.size else G.mU j }) (h:=h++[.map []]) h.length ⟨.map [],by simp,by simp⟩
 simpa using this
theorem I1 {t kt e:TypeId}{d:TypeDesc}{z:lC}{ok:Bool}(i:Inv G h w) (ht:P.underlying t=some (.map kt e)) (hd:P.underlying kt=some d) (hz:pT P e=some z) (hf:pL d y=true)
  (hb:Ab z ok h x y=some v) (hx:lT G h x X) (hy:lT G h y Y):∃V,(Instr.lookup t X Y ok).run P w=.ok V w∧lT G h v V:=by
 unfold Ab at hb;cases hb
theorem I3 {t kt e:TypeId}{d:TypeDesc}{h':lD}(i:Inv G h w) (ht:P.underlying t=some (.map kt e)) (hd:P.underlying kt=some d) (hf:pL d y=true)
  (hb:Di h x y v=some h') (hx:lT G h x X) (hy:lT G h y Y) (hv:lT G h v V):∃w',(Instr.mapUpdate t X Y V).run P w=.ok () w'∧Inv G h' w'∧Ext G h w G h' w':=by
 unfold Di at hb;cases hb
theorem I2 {t kt e ty:TypeId}{d:TypeDesc}{h':lD}(i:Inv G h w) (ht:P.underlying t=some (.map kt e)) (hd:P.underlying kt=some d) (hf:pL d y=true)
  (hb:Dh h x y=some h') (hx:lT G h x X) (hy:lT G h y Y) {ts:Array TypeId}(hts:ts[0]?=some t):∃w',(Builtin.delete_ ts ty #[X,Y]).run P w=.ok (.tuple #[]) w'∧Inv G h' w'∧Ext G h w G h' w':=by
 unfold Dh at hb;cases hb
theorem wH:∀{rows:List (List lC)}{bs:List UInt8},bytesOf rows=some bs→∃ns:List Int,rows=ns.map (fun n=>[lC.int .u8 n])∧bs=ns.map fun n=>UInt8.ofNat n.toNat
 | [],bs,hb=>by simp [bytesOf] at hb;subst hb;exact⟨[],rfl,rfl⟩
 | row::r,bs,hb=>by
  unfold bytesOf at hb
  split at hb
  ·rename_i h0;cases h0
  ·rename_i n r' h0
   cases h0
   split at hb
   ·rename_i bs' hbs
    cases hb
    obtain⟨ns,h1,h2⟩:=wH hbs
    exact⟨n::ns,by simp [h1],by simp [h2]⟩
   ·cases hb
  ·cases hb
theorem vU {ns:List Int}(hrows:qS 1 h x=some (ns.map (fun n=>[lC.int .u8 n]))) (i:Inv G h w) (hx:lT G h x X):∃V,(Conv.bytesToString X).run P w=.ok V w∧lT G h (.str (ns.map fun n=>UInt8.ofNat n.toNat)) V:=by
 obtain⟨a,news,s⟩:=uD i hrows hx
 obtain⟨cap,hX⟩:=s.form
 have hnews:news=ns.map (Value.int .u8):=by
  apply List.ext_getElem?
  intro j
  cases hj:ns[j]? with
  | none =>
   have:ns.length≤j:=List.getElem?_eq_none_iff.1 hj
   rw [List.getElem?_eq_none (by rw [s.len];simp;exact this),List.getElem?_eq_none (by simpa using this)]
  | some n =>
   obtain⟨u,h1,h2,_⟩:=s.rel j 0 [lC.int .u8 n] (.int .u8 n) (by simp [hj]) rfl
   simp only [Nat.mul_one,as3] at h1
   rw [h1,af7,hj]
   cases h2;rfl
 have hstr:(ns.foldl (fun r n=>r.push (UInt8.ofNat n.toNat)) ByteArray.empty)=⟨(ns.map fun n=>UInt8.ofNat n.toNat).toArray⟩:=by
  have:∀(ns:List Int) (b:ByteArray),ns.foldl (fun r n=>r.push (UInt8.ofNat n.toNat)) b=⟨(b.data.toList++ns.map fun n=>UInt8.ofNat n.toNat).toArray⟩:=by
   intro ns
   induction ns with
   | nil=>intro b;cases b;simp
   | cons n ns ih=>intro b;rw [List.foldl_cons,ih];cases b;simp [ByteArray.push]
  rw [this];rfl
 refine⟨.string ⟨(ns.map fun n=>UInt8.ofNat n.toNat).toArray⟩,?_,.p _ _ (.str _)⟩
 rw [hX]
 cases a with
 | none =>
  have h0:ns=[]:=by
   cases ns with
   | nil=>rfl
   | cons n ns =>
    obtain⟨ad,h1,_⟩:=s.at_ 0 (.int .u8 n) (by rw [hnews];rfl)
    cases h1
  subst h0
  rfl
 | some ad =>
  have hload:(loadCells ad (ns.map (fun n=>[lC.int .u8 n])).length).run P w=.ok (ns.map (Value.int .u8)).toArray w:=by
   have:=run_loadCells (P:=P) w ad ns.length (fun j=>news.getD j undef) (fun j hj=>by
    have hjn:news[j]?=some (news.getD j undef):=by
     rw [ae9,ac6 (by rw [hnews];simpa using hj)];rfl
    obtain⟨ad',h1,h2⟩:=s.at_ j _ hjn
    cases h1;exact h2)
   rw [List.length_map,this]
   congr 1
   apply Array.ext'
   simp only [List.toList_toArray] at *
   apply List.ext_getElem?
   intro j
   rw [hnews]
   by_cases hj:j<ns.length
   ·simp [hj,ae9]
   ·simp [List.getElem?_eq_none (show ns.length≤j by omega),hj]
  have:=run_bytesToString (P:=P) w ad _ cap ns hload
  rw [hstr] at this
  exact this
theorem FP (i:Inv G h w) (hb:tT x=some v) (hx:lT G h x X):∃V,(Conv.bytesToString X).run P w=.ok V w∧lT G h v V:=by
 unfold tT at hb
 split at hb
 ·rename_i rows tok
  simp only [af1] at hb
  obtain⟨bs,hbs,rfl⟩:=hb
  obtain⟨ns,rfl,rfl⟩:=wH hbs
  have hrows:qS 1 h (.slice (ns.map (fun n=>[lC.int .u8 n])) tok)=some (ns.map (fun n=>[lC.int .u8 n])):=by
   simp [qS]
  exact vU hrows i hx
 ·cases hb
theorem IY (i:Inv G h w) (hb:BP h x=some v) (hx:lT G h x X):∃V,(Conv.bytesToString X).run P w=.ok V w∧lT G h v V:=by
 unfold BP at hb
 split at hb
 ·split at hb
  ·rename_i rows hrows
   simp only [af1] at hb
   obtain⟨bs,hbs,rfl⟩:=hb
   obtain⟨ns,rfl,rfl⟩:=wH hbs
   exact vU hrows i hx
  ·cases hb
 ·split at hb
  ·rename_i rows hrows
   simp only [af1] at hb
   obtain⟨bs,hbs,rfl⟩:=hb
   obtain⟨ns,rfl,rfl⟩:=wH hbs
   exact vU hrows i hx
  ·cases hb
 ·exact FP i hb hx
def GD (P:Program) (f g:Nat):Prop :=
 (∀(X:Array Value) (w:World),(callFunc f X).run P w=.ok (.enter f X) w) ∧
 (∀(a:Option Addr) (cap:Nat) (F C:Array Value) (w:World),Calls P f #[.slice a 0 cap,.func (.func g) F C] w fun e w'=>e=.returned (.tuple #[])∧w'=w) ∧
 ∀(w:World) (mU cap:Nat) (C:Array Value) (e:TypeId) (zs:List Int) (pb po sb so len cp:Nat) (key:Int→Int),
  w.heap[mU]?=some (.cells C e (0,0))→zs≠[]→zs.length≤1048576→(∀(j:Nat) (n:Int),zs[j]?=some n→C[j]?=some (.int .i64 n)) →
  w.cell? ⟨pb,po,none⟩=some (.slice (some ⟨sb,so,none⟩) len cp)→pb≠mU→sb≠mU →
  (∀x∈zs,0≤x∧x.toNat<len∧w.cell? ⟨sb,so+x.toNat*2,none⟩=some (.int .i64 (key x))) →
  Calls P f #[.slice (some ⟨mU,0,none⟩) zs.length cap,.func (.func g) #[] #[.pointer (some ⟨pb,po,none⟩)]] w fun e w'=>e=.returned (.tuple #[]) ∧
   w'.os=w.os∧w'.tape=w.tape∧w'.output=w.output∧∃os,w'.heap=(w.setRow mU ((zs.mergeSort (qJ key)).map (Value.int .i64)++C.toList.drop zs.length).toArray).heap++os
def asS (P:Program) (A:wC) (f:Nat) (g:List lC→Option lC):Prop :=
 (∀(X:Array Value) (w:World),(callFunc f X).run P w=.ok (.enter f X) w) ∧
 ∀(G:Gh) (h:lD) (w:World) (args:List lC) (X:Array Value) (v:lC),Inv G h w→oU A G h w→args.length=X.size→(∀(i:Nat) (u:lC),args[i]?=some u→lT G h u (X.getD i undef))→g args=some v →
  Calls P f X w fun e w'=>(∃V,e=.returned V∧oQ G.H v V)∧w'.os=w.os∧w'.tape=w.tape∧w'.output=w.output∧∃os,w'.heap=w.heap++os
def ab8 (P:Program) (A:wC) (f:Nat):Yu→Prop
 | .fn g=>asS P A f g
 | _=>False
def rJ (P:Program) (A:wC):Prop:=(∀f,A.ext f=some .indexByte→∃fn,P.funcs[f]?=some fn∧(fn.name == "runtime.NumGoroutine")=false∧fn.body.isNone=true∧Extern.findNext fn=none∧Extern.find fn=some Extern.BytealgIndexByte.indexByte)∧(∀f g,A.srf f=some g→GD P f g)∧∀f k,A.prm f=some k→ab8 P A f k
theorem IZ (l:List UInt8) (c:UInt8):uU l c=Lib.indexByte l c:=by
 induction l with
 | nil=>rfl
 | cons b l ih=>simp only [uU,Lib.indexByte,ih]
theorem Hp {A:wC}{f:Nat}{k:Yk}{args:List lC}{r:nB×lD}{Xs:Array Value}(hX:rJ P A) (hf:A.ext f=some k) (hb:af0 k args h=some r) (hl:args.length=Xs.size)
  (hr:∀(i:Nat) (v:lC),args[i]?=some v→lT G h v (Xs.getD i undef)):∃v V,r=(.ret v,h)∧(callFunc f Xs).run P w=.ok (.value V) w∧lT G h v V:=by
 unfold af0 at hb
 simp only [af1] at hb
 obtain⟨v,hv,rfl⟩:=hb
 cases k with
 | indexByte =>
  unfold aoS at hv
  split at hv
  ·rename_i s c _
   cases hv
   obtain⟨fn,e1,e2,e3,e4,e5⟩:=hX.1 f hf
   have h0:=(hr 0 _ rfl).vG
   have h1:=(hr 1 _ rfl).pB
   have hXs:Xs=#[.string ⟨s.toArray⟩,.int .u8 c]:=by
    obtain⟨l⟩:=Xs
    match l,hl,h0,h1 with
    | [a,b],_,h0,h1=>simp at h0 h1;subst h0;subst h1;rfl
   refine⟨_,.int .i64 (uU s (UInt8.ofNat c.toNat)),rfl,?_,.p _ _ (.int _ _)⟩
   rw [run_callFunc_extern e1 e2 e3 e4 e5,hXs,Lib.run_indexByteString,IZ]
   rfl
  ·cases hv
end
end
end Hk
