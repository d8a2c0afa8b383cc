/-
  The texts Vk.Abs, Vk.Eval, Vk.Rel, Vk.Base, Vk.Pure, Vk.Pure2, Vk.Pure3, Vk.Mem, Vk.Mem2, Vk.Mem3, Vk.Mem4, Vk.Mem5, Vk.Mem6, Vk.Mem7, Vk.Mem8, Vk.Mem9, Vk.Mem10, Vk.MemT, one behind another. No conditions.
-/
import Derived.WalkKit
import Derived.MapKept
import Derived.Laws.MakeOwn
import Derived.Laws.BytesString
import Derived.Lib.Bytealg
import Derived.RangeFuncSeq
set_option linter.unusedVariables false
set_option linter.unusedSimpArgs false
set_option linter.all false
open Array renaming getD_eq_getD_getElem? → ad1, getElem?_append_left → aq0, getElem?_toList → ah1, length_toList → aq7
open List renaming all_eq_true → al0, getD_eq_getElem?_getD → ad9, getElem?_append_left → ah6, getElem?_append_right → af7, getElem?_drop → ah9, getElem?_eq_getElem → ae1, getElem?_eq_some_iff → ad0, getElem?_map → ah3, getElem?_take → ah8, length_take → al4, mem_of_getElem? → ae0, range → ar2, replicate → ai1
open Nat renaming add_mul → ar1, add_zero → aq9, le_refl → al1, mod_lt → aq2, mul_le_mul_right → am6
open Option renaming bind_eq_some_iff → aa6, map_eq_some_iff → ad2
open Option.some renaming injEq → aa9
open Prod.mk renaming injEq → ap2
open UInt8 renaming ofNat → ar4
namespace Hk
section
open Go
inductive Tok where
 | no | nil | own (id:Nat)
 deriving DecidableEq,Inhabited
inductive kN where
 | junk
 | bool (b:Bool)
 | int (k:IntKind) (n:Int)
 | str (s:List UInt8)
 | agg (cs:List kN)
 | tuple (vs:List kN)
 | slice (rows:List (List kN)) (tok:Tok)
 | pptr (cs:List kN)
 | ptr (id off:Nat)
 | nilptr
 | mslice (id off len sz:Nat)
 | vslice (id tot off len sz:Nat)
 | vptr (id tot off:Nat)
 | map (id:Nat)
 | nilmap
 | func (f:Nat) (first cap:List kN)
 | nilfunc
 | iface (t:Nat) (v:kN)
 | niliface
 deriving Inhabited
inductive lN where
 | free
 | gone
 | cells (cs:List kN)
 | front (n sz:Nat) (t:Nat:=0)
 | vec (tot sz:Nat) (cs:List kN)
 | map (es:List (kN×kN))
 | tcells (t:Nat) (cs:List kN)
 deriving Inhabited
abbrev kO:=List lN
inductive Ex where
 | normal | ret | exit (id:Nat) | pan (v:kN)
 deriving Inhabited
inductive mR where
 | ret (v:kN) | pan (v:kN)
 deriving Inhabited
abbrev kT:=Nat→List kN→kO→Option (mR×kO)
abbrev R:=Ex×List kN×kO
inductive Yr where
 | indexByte
 deriving DecidableEq
inductive Yy where
 | copyCheck
 | bldString (e:Nat)
 | fn (g:List kN→Option kN)
structure Vl where
 seq:List kN→kO→Option (List (List kN))
structure xS where
 glob:Nat→Option (List kN):=fun _=>none
 esc:Nat→Bool:=fun _=>false
 grow:Nat→Bool:=fun _=>false
 pure:Nat→Bool:=fun _=>false
 ext:Nat→Option Yr:=fun _=>none
 pan:Nat→Bool:=fun _=>false
 dfr:Nat→Bool:=fun _=>false
 srt:Nat→Bool:=fun _=>false
 srf:Nat→Option Nat:=fun _=>none
 vec:Nat→Bool:=fun _=>false
 frz:Nat→Bool:=fun _=>false
 vecT:Nat→Nat→Bool:=fun _ _=>false
 vmk:Nat→Bool:=fun _=>false
 jt:Nat→Bool:=fun _=>false
 sub:Nat→Bool:=fun _=>false
 out:Nat→Bool:=fun _=>false
 frr:Nat→Bool:=fun _=>false
 rb:Nat→Bool:=fun _=>false
 vlitT:Nat→Nat→Bool:=fun _ _=>false
 frl:Nat→Bool:=fun _=>false
 lkp:Nat→Bool:=fun _=>false
 tb:Nat→Bool:=fun _=>false
 tbt:Nat→Bool:=fun _=>false
 bld:Nat→Nat→Nat→Bool:=fun _ _ _=>false
 gsz:Nat→Option Nat:=fun _=>none
 prm:Nat→Option Yy:=fun _=>none
 rgf:Nat→Bool:=fun _=>false
 itr:Nat→Option Vl:=fun _=>none
 vlit:Nat→Bool:=fun _=>false
 kp:Nat→Bool:=fun _=>false
 ck:Nat→Bool:=fun _=>false
def kN.cells:kN→List kN
 | .agg cs=>cs
 | v=>[v]
def Bp:Value→kN
 | .bool b=>.bool b
 | .int k n=>.int k n
 | .string s=>.str s.data.toList
 | .pointer none=>.nilptr
 | .slice none 0 0=>.slice [] .nil
 | .map none=>.nilmap
 | .nilFunc=>.nilfunc
 | .nilIface=>.niliface
 | _=>.junk
def ofConst:Value→kN
 | .agg cs=>.agg (cs.toList.map Bp)
 | .tuple cs=>match cs.toList with | []=>.tuple [] | _=>.junk
 | v=>Bp v
def qF (A:xS) (ρ:List kN):Operand→kN
 | .tmp t=>ρ.getD t .junk
 | .const v=>ofConst v
 | .global g=>match A.glob g with | some cs=>.pptr cs | none=>.junk
 | .func f=>.func f [] []
def kN.Pa:kN→Option kN
 | .bool b=>some (.bool b)
 | .int k n=>some (.int k n)
 | .str s=>some (.str s)
 | .slice rows _=>some (.slice rows .no)
 | .pptr cs=>some (.pptr cs)
 | .nilptr=>some .nilptr
 | .nilmap=>some .nilmap
 | .func f [] []=>some (.func f [] [])
 | .nilfunc=>some .nilfunc
 | .niliface=>some .niliface
 | _=>none
def sH:List kN→Option (List kN)
 | []=>some []
 | v::r=>match v.Pa,sH r with
  | some x,some y=>some (x::y)
  | _,_=>none
def kN.nE:kN→Bool
 | .junk=>true
 | _=>false
def kN.lS:kN→Bool
 | .junk | .agg _ | .tuple _=>false
 | _=>true
def rowsOf:Nat→Nat→List kN→List (List kN)
 | 0,_,_=>[]
 | n+1,sz,cs=>cs.take sz::rowsOf n sz (cs.drop sz)
def tS:kN→Option Nat
 | .ptr id _=>some id
 | .mslice id _ _ _=>some id
 | .vslice id _ _ _ _=>some id
 | .vptr id _ _=>some id
 | .map id=>some id
 | .slice _ (.own id)=>some id
 | _=>none
def kN.sC (m:Nat):kN→Bool
 | .agg _=>false
 | .tuple _=>false
 | .iface _ _=>false
 | .func _ first cap=>first.isEmpty&&cap.isEmpty
 | v=>match tS v with | some r=>decide (r<m) | none=>true
def kN.rI (m:Nat):kN→Bool
 | .agg cs=>cs.all (kN.sC m)
 | .iface _ v=>v.sC m
 | .func _ first cap=>first.all (kN.sC m)&&cap.all (kN.sC m)
 | v=>v.sC m
def kN.oW (m:Nat) (h:kO):kN→kN
 | .slice rows (.own id)=>bif decide (id<m) then .slice rows (.own id) else .slice rows .no
 | .ptr id off=>bif decide (id<m) then .ptr id off else
   match h[id]? with
   | some (.cells cs)=>match sH (cs.drop off) with
    | some row=>.pptr row
    | none=>.junk
   | _=>.junk
 | .mslice id off len sz=>bif decide (id<m) then .mslice id off len sz else
   match h[id]? with
   | some (.cells cs)=>match sH ((cs.drop off).take (len*sz)) with
    | some row=>bif decide (off+len*sz≤cs.length) then .slice (rowsOf len sz row) .no else .junk
    | none=>.junk
   | _=>.junk
 | .vslice id tot off len sz=>bif decide (id<m) then .vslice id tot off len sz else
   match h[id]? with
   | some (.vec tot' _ cs)=>match sH ((cs.drop off).take (len*sz)) with
    | some row=>bif decide (tot=tot'∧off+len*sz≤cs.length) then .slice (rowsOf len sz row) .no else .junk
    | none=>.junk
   | _=>.junk
 | v=>bif v.rI m then v else .junk
def kN.vS (m:Nat) (h:kO):kN→kN
 | .agg cs=>.agg (cs.map (·.oW m h))
 | .tuple vs=>.tuple (vs.map fun v=>match v with | .agg cs=>.agg (cs.map (·.oW m h)) | v=>v.oW m h)
 | .iface t (.agg cs)=>.iface t (.agg (cs.map (·.oW m h)))
 | .iface t v=>.iface t (v.oW m h)
 | v=>v.oW m h
def mI (m:Nat) (h:kO):List kN→Option (List kN)
 | []=>some []
 | v::r=>bif (v.oW m h).lS then(match mI m h r with | some r'=>some (v.oW m h::r') | none=>none) else none
def pW (m:Nat) (h:kO):lN→Option lN
 | .cells cs=>(mI m h cs).map .cells
 | .vec tot sz cs=>(mI m h cs).map (.vec tot sz)
 | .tcells t cs=>(mI m h cs).map (.tcells t)
 | .map es=>bif es.all (fun e=>e.2.rI m) then some (.map es) else none
 | b=>some b
def sJ (m:Nat) (h:kO):List lN→Option (List lN)
 | []=>some []
 | b::r=>match pW m h b,sJ m h r with
  | some b',some r'=>some (b'::r')
  | _,_=>none
def vT (m:Nat) (h:kO):Option kO:=sJ m h (h.take m)
def kN.qK:kN→kN
 | .slice rows _=>.slice rows .no
 | v=>v
def kN.kP:kN→kN
 | .agg cs=>.agg (cs.map kN.qK)
 | .tuple vs=>.tuple (vs.map fun v=>match v with | .agg cs=>.agg (cs.map kN.qK) | v=>v.qK)
 | v=>v.qK
def lF (op:BinOp) (x y:kN):Option kN :=
 match x,y with
 | .int k a,.int k' b =>
  match op with
  | .shl=>if b<0 then none else some (.int k (k.wrap (a*2^(min b.toNat k.bits))))
  | .shr=>if b<0 then none else some (.int k (a.fdiv (2^(min b.toNat k.bits))))
  | _=>if k≠k' then none else
   match op with
   | .add=>some (.int k (k.wrap (a+b)))
   | .sub=>some (.int k (k.wrap (a-b)))
   | .mul=>some (.int k (k.wrap (a*b)))
   | .quo=>if b=0 then none else some (.int k (k.wrap (a.tdiv b)))
   | .rem=>if b=0 then none else some (.int k (a.tmod b))
   | .and=>some (.int k (k.wrap (BitVec.ofInt k.bits a &&& BitVec.ofInt k.bits b).toNat))
   | .or=>some (.int k (k.wrap (BitVec.ofInt k.bits a ||| BitVec.ofInt k.bits b).toNat))
   | .xor=>some (.int k (k.wrap (BitVec.ofInt k.bits a ^^^ BitVec.ofInt k.bits b).toNat))
   | .andNot=>some (.int k (k.wrap (BitVec.ofInt k.bits a &&& ~~~ BitVec.ofInt k.bits b).toNat))
   | .eql=>some (.bool (a == b))
   | .neq=>some (.bool (a != b))
   | .lss=>some (.bool (a<b))
   | .leq=>some (.bool (a≤b))
   | .gtr=>some (.bool (a > b))
   | .geq=>some (.bool (a≥b))
   | _=>none
 | .str a,.str b =>
  match op with
  | .add=>if a.length+b.length≤4611686018427387904 then some (.str (a++b)) else none
  | .eql=>some (.bool (a == b))
  | .neq=>some (.bool (!(a == b)))
  | .lss=>some (.bool (Op.bytesLess a b))
  | .leq=>some (.bool (Op.bytesLess a b || a == b))
  | .gtr=>some (.bool (!(Op.bytesLess a b || a == b)))
  | .geq=>some (.bool (!(Op.bytesLess a b)))
  | _=>none
 | _,_=>none
def xF (op:BinOp) (x y:kN):Option kN :=
 match op,x,y with
 | .eql,.bool a,.bool b=>some (.bool (a == b))
 | .neq,.bool a,.bool b=>some (.bool (!(a == b)))
 | _,_,_=>none
def HC:kN→Option Bool
 | .nilptr=>some true
 | .ptr _ _=>some false
 | .vptr _ _ _=>some false
 | .pptr _=>some false
 | _=>none
def Kb (op:BinOp) (x y:kN):Option kN :=
 match op,y with
 | .eql,.nilptr=>(HC x).map .bool
 | .neq,.nilptr=>(HC x).map fun b=>.bool (!b)
 | _,_=>none
inductive Kd where
 | b | i | s
 deriving DecidableEq
def VB:Kd→kN→kN→Option Bool
 | .i,.int k a,.int k' b=>if k=k' then some (a == b) else none
 | .b,.bool a,.bool b=>some (a == b)
 | .s,.str a,.str b=>some (a == b)
 | _,_,_=>none
def r7:List Kd→List kN→List kN→Option Bool
 | [],[],[]=>some true
 | k::ks,x::xs,y::ys=>match VB k x y,r7 ks xs ys with
  | some a,some b=>some (a&&b)
  | _,_=>none
 | _,_,_=>none
def Cv (ks:List Kd):kN→kN→Option Bool
 | .agg xs,.agg ys=>r7 ks xs ys
 | _,_=>none
def vN (op:UnOp) (x:kN):Option kN :=
 match op,x with
 | .neg,.int k n=>some (.int k (k.wrap (0-n)))
 | .xor,.int k n=>some (.int k (k.wrap (BitVec.ofInt k.bits (if k.signed then -1 else k.max) ^^^ BitVec.ofInt k.bits n).toNat))
 | .not,.bool b=>some (.bool !b)
 | _,_=>none
def mC (k:IntKind):kN→Option kN
 | .int _ n=>some (.int k (k.wrap n))
 | _=>none
def lH (c a b:kN):Option kN :=
 match c with
 | .bool g=>some (bif g then a else b)
 | _=>none
def apart (isAgg:Bool) (n:Nat) (cs:List kN) (off:Nat):Option kN :=
 bif isAgg then(if off+n≤cs.length then some (.agg ((cs.drop off).take n)) else none) else cs[off]?
def Hv (isAgg:Bool) (n off:Nat):kN→Option kN
 | .agg cs=>apart isAgg n cs off
 | _=>none
def lC (i:Nat):kN→Option kN
 | .tuple vs=>vs[i]?
 | _=>none
def mS (x i:kN):Option kN :=
 match x,i with
 | .str s,.int _ n=>if 0≤n then(s[n.toNat]?).map fun b=>.int .u8 b.toNat else none
 | _,_=>none
def oI (isAgg:Bool) (len sz:Nat) (x i:kN):Option kN :=
 match x,i with
 | .agg cs,.int _ n=>if 0≤n∧n<len then apart isAgg sz cs (n.toNat*sz) else none
 | _,_=>none
def mD (sz:Nat) (x i:kN):Option kN :=
 match x,i with
 | .slice rows _,.int _ n =>
  if 0≤n then match rows[n.toNat]? with
   | some row=>if row.length=sz then some (.pptr row) else none
   | none=>none
  else none
 | .mslice id off len sz',.int _ n=>if 0≤n∧n<len∧sz'=sz then some (.ptr id (off+n.toNat*sz)) else none
 | .vslice id tot off len sz',.int _ n=>if 0≤n∧n<len∧sz'=sz then some (.vptr id tot (off+n.toNat*sz)) else none
 | _,_=>none
def lQ (len sz:Nat) (x i:kN):Option kN :=
 match x,i with
 | .ptr id off,.int _ n=>if 0≤n∧n<len then some (.ptr id (off+n.toNat*sz)) else none
 | .pptr cs,.int _ n=>if 0≤n∧n<len then some (.pptr (cs.drop (n.toNat*sz))) else none
 | _,_=>none
def kQ (off:Nat):kN→Option kN
 | .ptr id o=>some (.ptr id (o+off))
 | .vptr id tot o=>some (.vptr id tot (o+off))
 | .pptr cs=>some (.pptr (cs.drop off))
 | _=>none
def pU (x:Option kN) (dflt:Nat):Option Nat :=
 match x with
 | none=>some dflt
 | some (.int _ n)=>if 0≤n then some n.toNat else none
 | _=>none
def nT (x:kN) (lo hi:Option kN):Option kN :=
 match x with
 | .str s=>match pU lo 0,pU hi s.length with
  | some l,some u=>if l≤u∧u≤s.length then some (.str ((s.drop l).take (u-l))) else none
  | _,_=>none
 | _=>none
def zR (len sz:Nat) (x:kN) (lo hi:Option kN):Option kN :=
 match x,lo,hi with
 | .ptr id off,none,none=>if 0<len then some (.mslice id off len sz) else none
 | _,_,_=>none
def n8 (sz:Nat) (x:kN) (lo hi:Option kN):Option kN :=
 match x with
 | .slice rows _=>match pU lo 0,pU hi rows.length with
  | some l,some u=>if l≤u∧u≤rows.length∧(rows.all fun r=>r.length == sz) then some (.slice ((rows.drop l).take (u-l)) .no) else none
  | _,_=>none
 | .mslice id off len sz'=>match pU lo 0,pU hi len with
  | some l,some u=>if l≤u∧u≤len∧sz'=sz then some (.mslice id (off+l*sz) (u-l) sz) else none
  | _,_=>none
 | .vslice id tot off len sz'=>match pU lo 0,pU hi len with
  | some l,some u=>if l≤u∧u≤len∧sz'=sz then(if l=0∨l<u then some (.vslice id tot (off+l*sz) (u-l) sz) else some (.slice [] .no)) else none
  | _,_=>none
 | _=>none
def nG:kN→Option kN
 | .str s=>some (.int .i64 s.length)
 | _=>none
def s5:kN→Option kN
 | .slice rows _=>some (.int .i64 rows.length)
 | .mslice _ _ len _=>some (.int .i64 len)
 | .vslice _ _ _ len _=>some (.int .i64 len)
 | _=>none
def Dh (x y:kN):Option kN :=
 match x,y with
 | .int k a,.int _ b=>some (.int k (if b > a then b else a))
 | _,_=>none
def Ck (x y:kN):Option kN :=
 match x,y with
 | .int k a,.int _ b=>some (.int k (if b<a then b else a))
 | _,_=>none
def Dj:kN→List kN→Option kN
 | x,[]=>some x
 | x,y::r=>(Ck x y).bind fun z=>Dj z r
def Di:kN→List kN→Option kN
 | x,[]=>some x
 | x,y::r=>(Dh x y).bind fun z=>Di z r
def pM (h:kO) (id:Nat):Option (List kN) :=
 match h[id]? with
 | some (.cells cs)=>some cs
 | _=>none
def n6 (h:kO) (id tot:Nat):Option (Nat×List kN) :=
 match h[id]? with
 | some (.vec tot' sz cs)=>if tot'=tot then some (sz,cs) else none
 | _=>none
def kY (isAgg:Bool) (n:Nat) (h:kO):kN→Option kN
 | .pptr cs=>apart isAgg n cs 0
 | .ptr id off=>match pM h id with
  | some cs=>apart isAgg n cs off
  | none=>none
 | .vptr id tot off=>match n6 h id tot with
  | some x=>apart isAgg n x.2 off
  | none=>none
 | _=>none
def kU (cs:List kN) (off:Nat) (vs:List kN):List kN:=cs.take off++vs++cs.drop (off+vs.length)
def kN.isNil:kN→Bool
 | .slice [] .nil=>true
 | _=>false
def uM (h:kO) (o v:kN):kN:=bif v.isNil then(match o with
 | .slice [] (.own id)=>(match h[id]? with
  | some (.front 0 0)=>.slice [] (.own id)
  | _=>v)
 | _=>v) else v
def nQ (h:kO):List kN→List kN→List kN
 | o::os,v::vs=>uM h o v::nQ h os vs
 | _,vs=>vs
def kR (n:Nat) (h:kO) (p v:kN):Option kO :=
 match p with
 | .ptr id off=>match pM h id with
  | some cs =>
   let vs:=v.cells
   if vs.length=n∧off+n≤cs.length∧vs.all kN.lS then some (h.set id (.cells (kU cs off (nQ h (cs.drop off) vs)))) else none
  | none=>none
 | .vptr id tot off=>match n6 h id tot with
  | some x =>
   let vs:=v.cells
   if vs.length=n∧off+n≤x.2.length∧vs.all kN.lS then some (h.set id (.vec tot x.1 (kU x.2 off vs))) else none
  | none=>none
 | _=>none
def mN:Nat→List kN→List kN×kO
 | _,[]=>([],[])
 | id,.slice [] .nil::r=>let (a,b):=mN (id+1) r;(.slice [] (.own id)::a,.front 0 0::b)
 | id,v::r=>let (a,b):=mN id r;(v::a,b)
def lR (n:Nat) (h:kO) (v:kN):Option (kN×kO) :=
 let vs:=v.cells
 if vs.length=n∧vs.all kN.lS then
  let (cs,fs):=mN (h.length+1) vs
  some (.ptr h.length 0,h++(.cells cs::fs))
 else none
def K4 (isAgg:Bool) (n:Nat) (h:kO):kN→Option kN:=fun _=>none
def Lb (n:Nat) (h:kO) (p v:kN):Option kO:=none
def EF (tb g:Bool) (n:Nat) (h:kO) (x:kN):Option kN:=bif tb then K4 g n h x else kY g n h x
def Tq (tb:Bool) (n:Nat) (h:kO) (p v:kN):Option kO:=bif tb then Lb n h p v else kR n h p v
def Dk (t n:Nat) (h:kO) (v:kN):Option (kN×kO):=none
def Ke (tb:Bool) (t n:Nat) (h:kO) (v:kN):Option (kN×kO):=bif tb then Dk t n h v else lR n h v
def tH (sz:Nat) (h:kO):kN→Option (List (List kN))
 | .slice rows _=>if rows.all fun r=>r.length == sz then some rows else none
 | .mslice id off len sz'=>match pM h id with
  | some cs=>if sz'=sz∧off+len*sz≤cs.length then(match sH ((cs.drop off).take (len*sz)) with | some row=>some (rowsOf len sz row) | none=>none) else none
  | none=>none
 | .vslice id tot off len sz'=>match n6 h id tot with
  | some x=>if sz'=sz∧off+len*sz≤x.2.length then(match sH ((x.2.drop off).take (len*sz)) with | some row=>some (rowsOf len sz row) | none=>none) else none
  | none=>none
 | _=>none
def VN (sz:Nat) (h:kO):kN→Option (List (List kN))
 | .vslice id tot off len sz'=>match n6 h id tot with
  | some x=>if sz'=sz∧off+len*sz≤x.2.length then some (rowsOf len sz ((x.2.drop off).take (len*sz))) else none
  | none=>none
 | _=>none
def Ak (sz:Nat) (h:kO) (x:kN):Option (List (List kN)):=match tH sz h x with
 | some r=>some r
 | none=>VN sz h x
def rS (sz bytes:Nat) (h:kO) (s x:kN):Option (kN×kO) :=
 match s,tH sz h x with
 | .slice rows (.own id),some new =>
  match h[id]? with
  | some (.front n sz') =>
   if rows.length=n∧(sz'=sz∨n=0∧sz'=0)∧(n+new.length)*bytes≤140737488355328∧n+new.length≤140737488355328
   then(if new.length=0 then some (.slice rows (.own id),h) else some (.slice (rows++new) (.own id),h.set id (.front (n+new.length) sz))) else none
  | _=>none
 | .slice [] .nil,some new =>
  if new.length=0 then some (.slice [] .nil,h) else
  if new.length*bytes≤140737488355328∧new.length≤140737488355328 then some (.slice new (.own h.length),h++[.front new.length sz]) else none
 | _,_=>none
def A6 (t1 sz bytes:Nat) (h:kO) (s x:kN):Option (kN×kO):=none
def Ct (t1 sz by_ zl:Nat) (h:kO) (s x:kN):Option (kN×kO):=none
def sM (sz bytes:Nat) (h:kO) (s x:kN):Option (kN×kO) :=
 match s,Ak sz h x with
 | .slice [] (.own id),some new =>
  match h[id]? with
  | some (.front 0 0) =>
   if new.length*bytes≤140737488355328∧new.length≤140737488355328
   then(if new.length=0 then some (.slice [] (.own id),h) else some (.vslice id new.length 0 new.length sz,h.set id (.vec new.length sz new.flatten))) else none
  | _=>none
 | .slice [] .nil,some new =>
  if new.length=0 then some (.slice [] .nil,h) else
  if new.length*bytes≤140737488355328∧new.length≤140737488355328 then some (.vslice h.length new.length 0 new.length sz,h++[.vec new.length sz new.flatten]) else none
 | .vslice id tot 0 n sz',some new =>
  match n6 h id tot with
  | some x =>
   if sz'=sz∧x.1=sz∧(n+new.length)*bytes≤140737488355328∧n+new.length≤140737488355328
   then(if new.length=0 then some (.vslice id tot 0 n sz,h)
    else if n+new.length≤tot then some (.vslice id tot 0 (n+new.length) sz,h.set id (.vec tot sz (kU x.2 (n*sz) new.flatten)))
    else some (.vslice id (n+new.length) 0 (n+new.length) sz,h.set id (.vec (n+new.length) sz (x.2.take (n*sz)++new.flatten)))) else none
  | none=>none
 | _,_=>none
def BN (h:kO) (v:kN):Option (kN×kO):=none
def Hx (h:kO) (v:kN):Option (kN×kO):=none
def PU (sz:Nat) (zero:List kN) (h:kO) (x:kN):Option kO:=none
def lB (zero:List kN) (places:List (Nat×Nat)) (parts:List (Nat×kN)):Option kN :=
 match parts with
 | []=>some (.agg zero)
 | (i,v)::rest=>match places[i]? with
  | some (off,n)=>if v.nE=false∧v.cells.length=n∧off+n≤zero.length then lB (kU zero off v.cells) places rest else none
  | none=>none
def BL (len sz:Nat) (zero:List kN) (parts:List (Nat×kN)):Option (List (List kN)) :=
 match lB (ai1 len zero).flatten ((ar2 len).map fun i=>(i*sz,sz)) parts with
 | some (.agg cs)=>match sH cs with
  | some row=>if zero.length=sz∧cs.all kN.lS then some (rowsOf len sz row) else none
  | none=>none
 | _=>none
def lE (len sz:Nat) (zero:List kN) (parts:List (Nat×kN)) (h:kO):Option (kN×kO) :=
 match BL len sz zero parts with
 | some rows=>some (.slice rows (.own h.length),h++[.front len sz])
 | none=>none
def Dd (len sz:Nat) (zero:List kN) (parts:List (Nat×kN)) (h:kO):Option (kN×kO) :=
 match lB (ai1 len zero).flatten ((ar2 len).map fun i=>(i*sz,sz)) parts with
 | some (.agg cs)=>if zero.length=sz∧cs.all kN.lS then some (.vslice h.length len 0 len sz,h++[.vec len sz cs]) else none
 | _=>none
def vA (len sz:Nat) (zero:List kN) (parts:List (Nat×kN)) (h:kO):Option (kN×kO) :=
 match BL len sz zero parts with
 | some rows=>some (.vslice h.length len 0 len sz,h++[.vec len sz rows.flatten])
 | none=>Dd len sz zero parts h
def qW (id len sz:Nat) (zero:List kN) (parts:List (Nat×kN)) (h:kO):Option (kN×kO):=none
def Ai (sz bytes:Nat) (zero:List kN) (len:kN) (h:kO):Option (kN×kO):=none
def pI (sz bytes:Nat) (zero:List kN) (len:kN) (h:kO):Option (kN×kO) :=
 match len with
 | .int _ n=>if 0≤n∧n.toNat*bytes≤140737488355328∧n≤140737488355328
   then some (.vslice h.length n.toNat 0 n.toNat sz,h++[.vec n.toNat sz (ai1 n.toNat zero).flatten]) else none
 | _=>none
def zA (h:kO) (d s:kN):Option (kN×kO) :=
 match d,s with
 | .vslice id tot off len 1,.str bs=>match n6 h id tot with
  | some x=>if off+len≤x.2.length∧x.1=1 then some (.int .i64 (min bs.length len:Nat),h.set id (.vec tot 1 (kU x.2 off ((bs.take len).map fun b=>.int .u8 b.toNat)))) else none
  | none=>none
 | _,_=>none
def bytesOf:List (List kN)→Option (List UInt8)
 | []=>some []
 | [.int .u8 n]::r=>match bytesOf r with
  | some bs=>some (ar4 n.toNat::bs)
  | none=>none
 | _=>none
def rM (x:kN):Option kN :=
 match x with
 | .slice rows _=>(bytesOf rows).map .str
 | _=>none
def yJ (h:kO) (x:kN):Option kN :=
 match x with
 | .vslice id tot off len sz=>match tH 1 h (.vslice id tot off len sz) with
  | some rows=>(bytesOf rows).map .str
  | none=>none
 | .mslice id off len sz=>match tH 1 h (.mslice id off len sz) with
  | some rows=>(bytesOf rows).map .str
  | none=>none
 | x=>rM x
def vU:List UInt8→UInt8→Int
 | [],_=>-1
 | b::l,c=>if b == c then 0 else if vU l c == -1 then -1 else vU l c+1
def atP:Yr→List kN→Option kN
 | .indexByte,[.str s,.int .u8 c]=>some (.int .i64 (vU s (ar4 c.toNat)))
 | _,_=>none
def rT:TypeDesc→kN→Bool
 | .int k,.int k' _=>k == k'
 | .string,.str _=>true
 | .bool,.bool _=>true
 | _,_=>false
def PY:kN→Bool
 | .int _ _ | .str _ | .bool _=>true
 | _=>false
def K6 (zero:kN) (ok:Bool) (h:kO) (m k:kN):Option kN:=none
def K8 (h:kO) (m k v:kN):Option kO:=none
def K7 (h:kO) (m k:kN):Option kO:=none
def ED (h:kO) (m:kN):Option kO:=none
def O9 (bld:Nat→Nat→Nat→Bool) (k:Yy) (args:List kN) (h:kO):Option (mR×kO) :=
 match k with
 | .fn g=>(g args).map fun v=>(.ret v,h)
 | _=>none
end
section
noncomputable section
open Go
def zS (t:Nat):Nat:=1 <<< t
def WL (o:Oper):Nat:=o.op.operands.toList.foldl (fun m x=>match x with | .tmp t=>m ||| zS t | _=>m) 0
def ah7 (o:Oper):Nat:=match o.dst with | some d=>zS d | none=>0
def af2 (full:Nat):List Oper→Nat×Nat→Nat×Nat
 | [],a=>a
 | o::r,(u,d)=>af2 full r (u ||| (WL o &&& (full ^^^ d)),d ||| ah7 o)
def Dt (id:Nat):Code→Bool
 | .exit j=>j == id
 | .seq a b | .cond _ a b=>Dt id a || Dt id b
 | .block _ c | .loop c | .scope c=>Dt id c
 | _=>false
def leaves:List Nat→Code→Bool
 | ids,.exit j=>!(ids.contains j)
 | ids,.seq a b | ids,.cond _ a b=>leaves ids a || leaves ids b
 | ids,.block id c=>leaves (id::ids) c
 | ids,.loop c=>leaves ids c
 | ids,.scope c=>leaves ids c
 | _,.skip | _,.region _ _ _ | _,.label _=>false
 | _,_=>true
def WK (o:Oper):Bool:=match o.op with | .panic _=>true | _=>false
def uW:Code→Bool
 | .skip=>true
 | .region _ ops _=>!(ops.toList.any WK)
 | .seq a b=>uW a&&uW b
 | .cond _ a b=>uW a || uW b
 | .block id c=>uW c || Dt id c
 | .scope c=>uW c
 | .label _=>true
 | _=>false
def zG (id:Nat):Code→Nat
 | .exit j=>bif j == id then 1 else 0
 | .seq a b=>zG id a+zG id b
 | .cond _ a b=>bif uW a&&uW b then(bif leaves [] a || leaves [] b then 1 else 0) else zG id a+zG id b
 | .block j c=>bif decide (2≤zG j c+bif uW c then 1 else 0) then 1 else zG id c
 | .loop _=>1
 | .scope c=>zG id c
 | _=>0
def ud (full:Nat):Code→Nat×Nat
 | .skip=>(0,0)
 | .region _ ops _=>af2 full ops.toList (0,0)
 | .seq a b=>let (u,d):=ud full a;let (u',d'):=ud full b;(u ||| (u' &&& (full ^^^ d)),d ||| d')
 | .cond c a b=>let (u,d):=ud full a;let (u',d'):=ud full b
  ((match c with | .tmp t=>zS t | _=>0) ||| u ||| u',(bif uW a then d else full) &&& (bif uW b then d' else full))
 | .block id c=>let (u,d):=ud full c;(u,bif Dt id c then 0 else d)
 | .loop c=>((ud full c).1,full)
 | .scope c=>ud full c
 | .label _=>(0,0)
 | .rangeFunc g _ a b=>((match g with | .tmp t=>zS t | _=>0) ||| (ud full a).1 ||| (ud full b).1,0)
 | _=>(0,full)
def ue (full:Nat) (c:Code):Nat:=(ud full c).1
def uN (L:Nat):Nat→List kN→List kN
 | _,[]=>[]
 | i,v::r=>bif L.testBit i then v::uN L (i+1) r else uN L (i+1) r
def pack (L:Nat) (ρ:List kN):List kN:=uN L 0 ρ
def unpackFrom (L:Nat) (x:List kN):Nat→Nat→Nat→List kN
 | 0,_,_=>[]
 | n+1,i,j=>bif L.testBit i then x.getD j .junk::unpackFrom L x n (i+1) (j+1) else .junk::unpackFrom L x n (i+1) j
def unpack (n L:Nat) (x:List kN):List kN:=unpackFrom L x n 0 0
def Ex.l_ (e:Ex) (kn:Option R) (ke:Ex→Option R):Option R :=
 match e with
 | .normal=>kn
 | e=>ke e
def Ex.pR (e:Ex) (kn:Option R):Option R :=
 match e with
 | .normal=>kn
 | _=>none
def Ex.inBlock (id:Nat) (e:Ex) (kn:Option R) (ke:Ex→Option R):Option R :=
 match e with
 | .normal=>kn
 | .exit j=>bif j == id then kn else ke (.exit j)
 | e=>ke e
def lW (x:Option (mR×kO)) (kv kp:kN→kO→Option R):Option R :=
 x.bind fun r=>match r.1 with
  | .ret v=>kv v r.2
  | .pan v=>kp v r.2
def kW (x:Option (kN×kO)) (k:kN→kO→Option R):Option R:=x.bind fun r=>k r.1 r.2
def kV (v:kN) (t e:Option R):Option R :=
 match v with
 | .bool b=>bif b then t else e
 | _=>none
def qG (P:Program) (t:TypeId):Option Bool :=
 match P.underlying t with
 | some (.struct _) | some (.array _ _)=>some true
 | some _=>some false
 | none=>none
def mX (P:Program) (t:TypeId):Option Nat:=(P.info? t).map (·.size)
def vV (P:Program) (t:TypeId):Option Nat:=(P.info? t).map (·.bytes)
def p_ (P:Program) (t:TypeId):Option kN:=(P.info? t).bind fun i=>i.zero.map ofConst
def zV (P:Program) (eqT:TypeId→Option (List Kd)):List Field→Nat→Option (List Kd)
 | [],_=>some []
 | f::r,off=>bif f.name == "_" || f.offset != off then none else match eqT f.type with
  | some ks=>bif mX P f.type == some ks.length&&ks.length != 0 then match zV P eqT r (off+ks.length) with
    | some l=>some (ks++l)
    | none=>none
   else none
  | none=>none
def vE (P:Program):Nat→TypeId→Option (List Kd)
 | 0,_=>none
 | d+1,t=>match P.underlying t with
  | some .bool=>some [.b]
  | some (.int _)=>some [.i]
  | some .string=>some [.s]
  | some (.struct fs)=>bif P.stoodInHeld t then none else zV P (vE P d) fs.toList 0
  | _=>none
def Dp (P:Program) (t:TypeId):Option (List Kd) :=
 match vE P 12 t with
 | some ks=>bif P.eqGuardType P.depth t then none else some ks
 | none=>none
def z9:Operand→Bool
 | .const (.slice none 0 0)=>true
 | _=>false
def oV (o:Oper):Bool :=
 match o.op with
 | .alloc _ | .box .. | .buildSlice .. | .makeSlice .. | .makeMap .. | .store .. | .mapUpdate .. | .insert .. | .panic _=>true
 | .assign x=>z9 x
 | .call c=>match c.callee with
  | .builtin .len | .builtin .cap | .builtin .min | .builtin .max=>false
  | _=>true
 | _=>false
def uF (o:Oper):Option Operand :=
 match o.op with
 | .load _ a=>some a
 | .lookup _ m _ _=>some m
 | _=>none
def HL:List Oper→List Nat→List Nat
 | [],acc=>acc
 | o::r,acc=>HL r (acc++[o.after.toList.foldl (fun m e=>bif Region.binds .any e then m ||| zS e.on ||| acc.getD e.on 0 else m) 0])
def JJ (ops:List Oper):List Nat:=HL ops []
def ac2 (a b:Nat):Bool:=(a &&& b) == a
def MX (ok:Nat→Bool) (cl:List Nat) (done:Nat):List Nat→Option Nat
 | []=>none
 | i::r=>bif !(done.testBit i)&&ac2 (cl.getD i 0) done&&ok i then some i else MX ok cl done r
structure Item where
 i:Nat
 o:Oper
 locks:List Nat
 rsv:Option Nat:=none
 hid:Bool:=false
def rO (o:Oper):Bool:=o.guard.isNone&&match o.op with | .alloc _ | .box .. | .buildSlice ..=>true | _=>false
def vF (o:Oper):Bool:=o.guard.isNone&&match o.op with | .call c=>(match c.callee with | .value _=>true | _=>false) | _=>false
def af3 (cl:List Nat) (i j:Nat):Bool:=(i != j)&&!((cl.getD i 0).testBit j)&&!((cl.getD j 0).testBit i)
def aa7 (f:Oper→Bool) (ops:List Oper) (i:Nat):Bool:=match ops[i]? with | some o=>f o | none=>false
def HU (ops:List Oper) (cl:List Nat):List Nat :=
 (ar2 ops.length).filter fun i=>aa7 rO ops i&&(ar2 ops.length).any fun j=>aa7 oV ops j&&af3 cl i j
def GH:List Nat→Nat→Nat→Option Nat
 | [],_,_=>none
 | a::r,i,k=>bif a == i then some k else GH r i (k+1)
def z0 (ops:List Oper) (cl fl:List Nat):List Nat→List Nat→List Item
 | [],_=>[]
 | i::r,before=>match ops[i]? with
  | some o =>
   {i,o,locks:=bif oV o then before.filter (fun p=>!((cl.getD i 0).testBit p)&&match ops[p]? with | some q=>(uF q).isSome | none=>false) else [],
    rsv:=GH fl i 0,hid:=vF o&&fl.any (af3 cl i) } ::
    z0 ops cl fl r (before++[i])
  | none=>[]
def wA (o:Oper):List Tmp:=o.op.operands.toList.filterMap fun x=>match x with | .tmp t=>some t | _=>none
def aiL (ops:List Oper) (o:Oper):Option Tmp:=match o.guard with
 | some (j,_)=>(ops[j]?).bind (·.dst)
 | none=>none
def zF (ops:List Oper) (o:Oper):List Tmp:=wA o++(aiL ops o).toList
def WJ (d:Option Tmp) (ts:List Tmp):Bool:=match d with
 | some d=>!(ts.contains d)
 | none=>true
def La (ops:List Oper) (x y:Oper):Bool :=
 WJ x.dst (zF ops y)&&WJ y.dst (zF ops x)&&WJ x.dst y.dst.toList
def indep (ops:List Oper) (p it:Item):Bool :=
 La ops p.o it.o&&match p.rsv,it.rsv with
 | some a,some b=>a != b
 | some _,none=>bif it.hid then true else !(oV it.o)&&(uF it.o).isNone
 | none,some _=>bif p.hid then p.locks.isEmpty else !(oV p.o)&&p.locks.isEmpty
 | none,none=>bif p.hid then p.locks.isEmpty&&(!it.hid&&(!(oV it.o)&&(uF it.o).isNone))
   else !(oV p.o)&&p.locks.isEmpty&&(!((uF p.o).isSome) || !(oV it.o) || it.locks.contains p.i)
def H5 (ops:List Oper) (cl:List Nat) (p it:Item):Bool :=
 (p.i != it.i)&&!((cl.getD p.i 0).testBit it.i)&&((cl.getD it.i 0).testBit p.i || indep ops p it)
def Au (ops:List Oper) (cl:List Nat):List Item→Bool
 | []=>true
 | p::r=>r.all (H5 ops cl p)&&Au ops cl r
def Le (ops:List Oper):Bool :=
 (ops.zipIdx).all fun(o,i)=>o.after.toList.all fun e=>!(Region.binds .any e) || decide (e.on<i)
def GG (ops:List Oper) (cl fl:List Nat) (n:Nat):Nat→Nat→List Nat
 | 0,_=>[]
 | fuel+1,done =>
  let light (i:Nat):Bool:=match ops[i]? with | some o=>!(oV o) | none=>false
  match MX light cl done (ar2 n) with
  | some i=>i::GG ops cl fl n fuel (done ||| zS i)
  | none=>match MX (fun i=>fl.contains i) cl done (ar2 n) with
   | some i=>i::GG ops cl fl n fuel (done ||| zS i)
   | none=>match MX (fun _=>true) cl done (ar2 n) with
    | some i=>i::GG ops cl fl n fuel (done ||| zS i)
    | none=>[]
def TH (ops:List Oper):List Nat:=GG ops (JJ ops) (HU ops (JJ ops)) ops.length ops.length 0
def An (ops:List Oper):Option (List Item) :=
 let items:=z0 ops (JJ ops) (HU ops (JJ ops)) (TH ops) []
 bif Au ops (JJ ops) items&&Le ops&&(items.length == ops.length)&&(ar2 ops.length).all (fun i=>items.any fun it=>it.i == i) then some items else none
def pC (ops:List Oper):List Item:=ops.zipIdx.map fun(o,i)=>{ i,o,locks:=[] }
def A7:kN→Option Nat
 | .ptr id _=>some id
 | .vptr id _ _=>some id
 | .map id=>some id
 | _=>none
def lA (locks:List Nat) (seen:List kN):List Nat:=locks.filterMap fun j=>A7 (seen.getD j .junk)
def Du (h:kO) (id:Nat):kO :=
 match h[id]? with
 | some (.cells _) | some (.map _) | some (.vec _ _ _) | some (.tcells _ _)=>h.set id .gone
 | _=>h
def xQ (h:kO) (r:kO) (id:Nat):kO :=
 match h[id]? with
 | some (.cells cs)=>r.set id (.cells cs)
 | some (.vec tot sz cs)=>r.set id (.vec tot sz cs)
 | some (.map es)=>r.set id (.map es)
 | some (.tcells t cs)=>r.set id (.tcells t cs)
 | _=>r
def oR (ids:List Nat) (h:kO):kO:=ids.foldl Du h
def lO (ids:List Nat) (h h':kO):kO:=ids.foldl (xQ h) h'
def wQ (t:Nat) (z:kN):kN→Option kN
 | .iface t' w=>some (bif t' == t then .tuple [w,.bool true] else .tuple [z,.bool false])
 | .niliface=>some (.tuple [z,.bool false])
 | _=>none
def xS.adF (A:xS) (f t:Nat):Bool:=A.vec f || A.vecT f t
def xS.Ub (A:xS) (f t:Nat):Bool:=A.vlit f || A.vlitT f t
structure Cx where
 P:Program
 A:xS
 K:kT
 lp:(List kN×kO→Option R)→List kN×kO→Option R
 n:Nat
 full:Nat
 pan:Bool:=false
 vec:Nat→Bool:=fun _=>false
 frz:Bool:=false
 vlit:Nat→Bool:=fun _=>false
 vmk:Bool:=false
 jt:Bool:=false
 lkp:Bool:=false
 rb:Bool:=false
 frl:Bool:=false
 tb:Bool:=false
 ck:Bool:=false
def uO:kN→Option (Nat×List kN×List kN)
 | .func f first cap=>some (f,first,cap)
 | _=>none
def VH (P:Program) (t:TypeId) (name:String):Option Nat :=
 match P.info? t with
 | some i=>match i.methods.find? (·.name == name) with
  | some m=>bif m.path.toList.isEmpty then(match m.func with
   | some (f,false)=>match P.underlying t with
    | some (.struct _)=>some f
    | _=>none
   | _=>none) else none
  | none=>none
 | none=>none
def KZ (P:Program) (name:String):kN→Option (Nat×kN)
 | .iface t w=>(VH P t name).map fun f=>(f,w)
 | _=>none
def lM:kN→Option kN
 | .ptr id off=>some (.ptr id off)
 | .vptr id tot off=>some (.vptr id tot off)
 | .pptr cs=>some (.pptr cs)
 | .func f a b=>some (.func f a b)
 | _=>none
def q_ (id n:Nat) (h:kO) (v:kN):Option (kN×kO) :=
 let vs:=v.cells
 match h[id]? with
 | some .free=>if vs.length=n∧vs.all kN.lS then some (.ptr id 0,h.set id (.cells vs)) else none
 | _=>none
def tY (A:xS) (f:Nat) (vs:List kN):List kN:=bif A.grow f then vs else vs.map kN.kP
def Aj (x:kN) (h:kO) (kp:kN→kO→Option R):Option R :=
 match x with
 | .iface t w=>kp (.iface t w) h
 | _=>none
def FM (P:Program) (t:TypeId):Option TypeId :=
 match P.underlying t with
 | some (.slice e)=>some e
 | _=>none
def aiF (k:Yr) (args:List kN) (h:kO):Option (mR×kO):=(atP k args).map fun v=>(.ret v,h)
def wR (A:xS) (K:kT) (f:Nat) (args:List kN) (h:kO):Option (mR×kO) :=
 match A.ext f with
 | some k=>aiF k args h
 | none=>K f args h
def SV:Operand→Operand→Bool
 | .tmp a,.tmp b=>a == b
 | .const (.int _ a),.const (.int _ b)=>a == b
 | _,_=>false
def qB (cx:Cx) (b:Builtin) (argTypes:List TypeId) (args:List kN) (h:kO) (kv:kN→kO→Option R):Option R :=
 match b,argTypes,args with
 | .len,[t],[x]=>match cx.P.underlying t with
  | some (.array n _)=>kv (.int .i64 n) h
  | some .string=>(nG x).bind fun w=>kv w h
  | some (.slice _)=>(s5 x).bind fun w=>kv w h
  | _=>none
 | .min,_,[x,y]=>(Ck x y).bind fun w=>kv w h
 | .max,_,[x,y]=>(Dh x y).bind fun w=>kv w h
 | .min,_,x::y::z::r=>(Dj x (y::z::r)).bind fun w=>kv w h
 | .max,_,x::y::z::r=>(Di x (y::z::r)).bind fun w=>kv w h
 | .append,[t,t'],[s,x]=>match FM cx.P t with
  | some e=>bif t != t' then(match cx.P.underlying t',mX cx.P e,vV cx.P e,p_ cx.P e with
   | some .string,some sz,some by_,some z=>bif z.nE then none else kW (Ct (e+1) sz by_ z.cells.length h s x) kv
   | _,_,_,_=>none) else match mX cx.P e,vV cx.P e,p_ cx.P e with
   | some sz,some by_,some z=>bif sz == 0 || z.nE || z.cells.length != sz then none else kW (bif cx.vec t then sM sz by_ h s x else bif cx.tb then A6 (e+1) sz by_ h s x else rS sz by_ h s x) kv
   | _,_,_=>none
  | none=>none
 | .copy,[t,t'],[d,x]=>match FM cx.P t,cx.P.underlying t' with
  | some e,some .string=>match mX cx.P e,p_ cx.P e with
   | some 1,some (.int .u8 _)=>kW (zA h d x) kv
   | _,_=>none
  | _,_=>none
 | .delete,[t,_],[m,k]=>match cx.P.underlying t with
  | some (.map kt _)=>match cx.P.underlying kt with
   | some d=>bif rT d k then(K7 h m k).bind fun h'=>kv (.tuple []) h' else none
   | none=>none
  | _=>none
 | .clear,[t],[x]=>match cx.P.underlying t with
  | some (.slice e)=>match mX cx.P e,p_ cx.P e with
   | some sz,some z=>bif z.nE then none else(PU sz z.cells h x).bind fun h'=>kv (.tuple []) h'
   | _,_=>none
  | some (.map _ _)=>(ED h x).bind fun h'=>kv (.tuple []) h'
  | _=>none
 | _,_,_=>none
def mU (cx:Cx) (o:Oper) (rsv:Option Nat) (v:Operand→kN) (h:kO) (kv:kN→kO→Option R) (kp:kN→kO→Option R):Option R :=
 match o.op with
 | .move x=>kv (v x) h
 | .assign x=>bif z9 x then kv (.slice [] (.own h.length)) (h++[.front 0 0]) else kv (v x) h
 | .pick c a b=>(lH (v c) (v a) (v b)).bind fun w=>kv w h
 | .alloc t=>match mX cx.P t,p_ cx.P t with
  | some n,some z=>match rsv with
   | none=>kW (Ke (cx.A.tbt t) t n h z) kv
   | some id=>kW (q_ id n h z) kv
  | _,_=>none
 | .box t x=>match mX cx.P t with
  | some n=>match rsv with
   | none=>kW (Ke (cx.A.tbt t) t n h (v x)) kv
   | some id=>kW (q_ id n h (v x)) kv
  | none=>none
 | .build t parts=>match p_ cx.P t,cx.P.underlying t with
  | some z,some (.struct fs) =>
   match fs.toList.mapM (fun f=>(mX cx.P f.type).map fun n=>(f.offset,n)) with
   | some places=>bif z.nE then none else(lB z.cells places (parts.toList.map fun p=>(p.1,v p.2))).bind fun w=>kv w h
   | none=>none
  | some z,some (.array len e)=>match mX cx.P e with
   | some n=>bif z.nE then none else(lB z.cells ((ar2 len).map fun i=>(i*n,n)) (parts.toList.map fun p=>(p.1,v p.2))).bind fun w=>kv w h
   | none=>none
  | _,_=>none
 | .buildSlice t len parts=>match FM cx.P t with
  | some e=>match mX cx.P e,p_ cx.P e with
   | some n,some z=>bif n == 0 || z.nE || decide (len*n > 16777216) then none else match rsv with
    | none=>kW (bif cx.vlit t then vA len n z.cells (parts.toList.map fun p=>(p.1,v p.2)) h else lE len n z.cells (parts.toList.map fun p=>(p.1,v p.2)) h) kv
    | some id=>kW (qW id len n z.cells (parts.toList.map fun p=>(p.1,v p.2)) h) kv
   | _,_=>none
  | none=>none
 | .load t a=>match qG cx.P t,mX cx.P t with
  | some g,some n=>(EF cx.tb g n h (v a)).bind fun w=>bif cx.rb&&cx.frl then kW (Hx h w) kv else kv w h
  | _,_=>none
 | .store t a x=>match mX cx.P t with
  | some n=>bif cx.frz then(BN h (v x)).bind fun y=>(kR n y.2 (v a) y.1).bind fun h'=>kv (.tuple []) h' else(Tq cx.tb n h (v a) (v x)).bind fun h'=>kv (.tuple []) h'
  | none=>none
 | .nilCheck x=>(lM (v x)).bind fun w=>kv w h
 | .binOp op t x y _=>match op,cx.P.underlying t with
  | .eql,some (.struct _)=>match Dp cx.P t with
   | some ks=>(Cv ks (v x) (v y)).bind fun b=>kv (.bool b) h
   | none=>none
  | .neq,some (.struct _)=>match Dp cx.P t with
   | some ks=>(Cv ks (v x) (v y)).bind fun b=>kv (.bool (!b)) h
   | none=>none
  | _,some .bool=>(xF op (v x) (v y)).bind fun w=>kv w h
  | _,some (.pointer _)=>(Kb op (v x) (v y)).bind fun w=>kv w h
  | _,some (.int _) | _,some .string=>(lF op (v x) (v y)).bind fun w=>kv w h
  | _,_=>none
 | .unOp op _ x=>(vN op (v x)).bind fun w=>kv w h
 | .convert s d x=>match cx.P.underlying s,cx.P.underlying d with
  | some (.int _),some (.int k)=>(mC k (v x)).bind fun w=>kv w h
  | some (.slice e),some .string=>match cx.P.underlying e with
   | some (.int .u8)=>(bif cx.rb then yJ h (v x) else rM (v x)).bind fun w=>kv w h
   | _=>none
  | _,_=>none
 | .makeMap _ none=>kv (.map h.length) (h++[.map []])
 | .makeSlice t l c=>match FM cx.P t with
  | some e=>match mX cx.P e,vV cx.P e,p_ cx.P e with
   | some n,some by_,some z=>bif n == 0 || z.nE || z.cells.length != n || !(z.cells.all kN.lS) || !(SV l c) then none else kW (bif cx.vmk then pI n by_ z.cells (v l) h else Ai n by_ z.cells (v l) h) kv
   | _,_,_=>none
  | none=>none
 | .lookup t m k ok=>match cx.P.underlying t with
  | some (.map kt e)=>match cx.P.underlying kt,p_ cx.P e with
   | some d,some z=>bif rT d (v k) then(K6 z ok h (v m) (v k)).bind fun w=>kv w h else none
   | _,_=>none
  | _=>none
 | .mapUpdate t m k x=>match cx.P.underlying t with
  | some (.map kt _)=>match cx.P.underlying kt with
   | some d=>bif rT d (v k) then(K8 h (v m) (v k) (v x)).bind fun h'=>kv (.tuple []) h' else none
   | none=>none
  | _=>none
 | .makeInterface t x=>match cx.P.underlying t with
  | some (.interface _)=>none
  | some _=>kv (.iface t (v x)) h
  | none=>none
 | .makeFunc (.func f) first cap=>kv (.func f (first.toList.map v) (cap.toList.map v)) h
 | .slice t x lo hi none=>match cx.P.underlying t with
  | some .string=>(nT (v x) (lo.map v) (hi.map v)).bind fun w=>kv w h
  | some (.slice e)=>match mX cx.P e with
   | some n=>(n8 n (v x) (lo.map v) (hi.map v)).bind fun w=>kv w h
   | none=>none
  | some (.array len e)=>match mX cx.P e with
   | some n=>(zR len n (v x) (lo.map v) (hi.map v)).bind fun w=>kv w h
   | none=>none
  | _=>none
 | .fieldAddr s x f=>match cx.P.underlying s with
  | some (.struct fs)=>match fs[f]? with
   | some fd=>match mX cx.P fd.type with
    | some (_+1)=>(kQ fd.offset (v x)).bind fun w=>kv w h
    | _=>none
   | none=>none
  | _=>none
 | .field t x f=>match cx.P.underlying t with
  | some (.struct fs)=>match fs[f]? with
   | some fd=>match qG cx.P fd.type,mX cx.P fd.type with
    | some g,some n=>(Hv g n fd.offset (v x)).bind fun w=>kv w h
    | _,_=>none
   | none=>none
  | _=>none
 | .indexAddr t x i=>match cx.P.underlying t with
  | some (.slice e)=>match mX cx.P e with
   | some (n+1)=>(mD (n+1) (v x) (v i)).bind fun w=>kv w h
   | _=>none
  | some (.array len e)=>match mX cx.P e with
   | some (n+1)=>(lQ len (n+1) (v x) (v i)).bind fun w=>kv w h
   | _=>none
  | _=>none
 | .index t x i=>match cx.P.underlying t with
  | some .string=>(mS (v x) (v i)).bind fun w=>kv w h
  | some (.array len e)=>match qG cx.P e,mX cx.P e with
   | some g,some n=>(oI g len n (v x) (v i)).bind fun w=>kv w h
   | _,_=>none
  | _=>none
 | .extract x i=>(lC i (v x)).bind fun w=>kv w h
 | .typeAssert x _ t true=>match cx.P.underlying t with
  | some (.interface _)=>none
  | some _=>match p_ cx.P t with
   | some z=>(wQ t z (v x)).bind fun w=>kv w h
   | none=>none
  | none=>none
 | .panic x=>Aj (v x) h kp
 | .call c=>match c.callee with
  | .builtin b=>qB cx b c.argTypes.toList (c.args.toList.map v) h kv
  | .value f=>(uO (v f)).bind fun g=>lW (wR cx.A cx.K g.1 (tY cx.A g.1 (g.2.1++c.args.toList.map v++g.2.2)) h) kv kp
  | .invoke x name=>(KZ cx.P name (v x)).bind fun g=>lW (wR cx.A cx.K g.1 (tY cx.A g.1 (g.2::c.args.toList.map v)) h) kv kp
 | _=>none
def evalOp (cx:Cx) (o:Oper) (rsv:Option Nat) (ρ:List kN) (h:kO) (kv:kN→kO→Option R) (kp:kN→kO→Option R):Option R:=mU cx o rsv (qF cx.A ρ) h kv kp
def pD (ρ:List kN) (dst:Option Tmp) (v:kN):List kN :=
 match dst with
 | some d=>ρ.set d v
 | none=>ρ
open Classical in
def Kj:List Nat→kO→kO→Option R→Option R
 | [],_,_,x=>x
 | id::r,h,h',x=>if ∀b,h[id]?=some b→h'[id]?=some b then Kj r h h' x else none
def mP (cx:Cx) (o:Oper) (ids:List Nat) (ρ:List kN) (h:kO) (kv:kN→kO→Option R) (kp:kN→kO→Option R):Option R :=
 bif cx.ck then evalOp cx o none ρ h (fun v h'=>Kj ids h h' (kv v h')) kp
 else evalOp cx o none ρ (oR ids h) (fun v h'=>kv v (lO ids h h')) (fun v h'=>kp v (lO ids h h'))
def sY (kv kp:kN→kO→Option R):R→Option R
 | (.normal,[v],h)=>kv v h
 | (.pan v,_,h)=>kp v h
 | _=>none
def lI (v:kN) (h:kO):Option R:=some (.normal,[v],h)
def Gg (v:kN) (h:kO):Option R:=some (.pan v,[],h)
def oU (want:Bool) (g:kN) (run skip:Option R):Option R :=
 match g with
 | .bool g=>bif want then(bif g then run else skip) else(bif g then skip else run)
 | .tuple []=>skip
 | _=>none
def sN (cx:Cx) (ops:List Oper) (o:Oper) (ids:List Nat) (ρ:List kN) (h:kO) (kv:kN→kO→Option R) (kp:kN→kO→Option R):Option R :=
 match o.guard with
 | none=>mP cx o ids ρ h kv kp
 | some (j,want)=>match (ops[j]?).bind (·.dst) with
  | some d=>(oU want (ρ.getD d .junk) (mP cx o ids ρ h lI Gg) (lI (.tuple []) h)).bind (sY kv kp)
  | none=>none
def seenAt (A:xS) (o:Oper) (ρ:List kN):kN:=match uF o with
 | some a=>qF A ρ a
 | none=>.junk
def tK (m:Nat) (v:kN):kN:=bif v.rI m then v else .junk
def nH (m:Nat):lN→Bool
 | .cells cs=>cs.all (kN.rI m)
 | .vec _ _ cs=>cs.all (kN.rI m)
 | .tcells _ cs=>cs.all (kN.rI m)
 | .map es=>es.all fun e=>e.2.rI m
 | _=>true
def JP (m:Nat) (h:kO) (kv:kN→kO→Option R):R→Option R
 | (.normal,[v],h')=>bif h'.length == m then kv v (h'++h.drop m) else none
 | _=>none
def wJ (cx:Cx) (o:Oper) (m:Nat) (ids:List Nat) (ρ:List kN) (h:kO) (kv:kN→kO→Option R):Option R :=
 bif (h.take m).all (nH m) then(mP cx o ids (ρ.map (tK m)) (h.take m) lI Gg).bind (JP m h kv) else none
def nB (cx:Cx) (ops:List Oper) (m:Nat) (it:Item) (ids:List Nat) (ρ:List kN) (h:kO) (kv:kN→kO→Option R) (kp:kN→kO→Option R):Option R :=
 match it.rsv with
 | some j=>bif rO it.o then evalOp cx it.o (some (m+j)) ρ h kv (fun _ _=>none) else none
 | none=>bif it.hid then(bif vF it.o then wJ cx it.o m ids ρ h kv else none) else sN cx ops it.o ids ρ h kv kp
def Ll {α:Type}:List kN→(List kN→α)→α
 | [],k=>k []
 | x::xs,k=>Ll xs fun ys=>k (x::ys)
theorem vY {α:Type}:∀{l:List kN}{k:List kN→α},Ll l k=k l
 | [],_=>rfl
 | x::xs,k=>by rw [Ll,vY]
def nF (cx:Cx) (ops:List Oper) (m:Nat):List Item→List kN→List kN→kO→(List kN→kO→Option R)→(kN→kO→Option R)→Option R
 | [],_,ρ,h,k,_=>k ρ h
 | it::rest,seen,ρ,h,k,kp =>
  nB cx ops m it (lA it.locks seen) ρ h (fun v h'=>Ll (pD ρ it.o.dst v) fun ρ'=>nF cx ops m rest (seen.set it.i (seenAt cx.A it.o ρ)) ρ' h' k kp) kp
def Dy:List Item→Nat
 | []=>0
 | it::r=>match it.rsv with | some _=>Dy r+1 | none=>Dy r
def Kp:Nat→List lN
 | 0=>[]
 | n+1=>.free::Kp n
def B3 (n:Nat) (h:kO):kO :=
 match n with
 | 0=>h
 | n+1=>h++Kp (n+1)
def uS (cx:Cx) (ops:List Oper) (draw:Bool) (ρ:List kN) (h:kO) (k:List kN→kO→Option R) (kp:kN→kO→Option R):Option R :=
 match draw with
 | false=>nF cx ops 0 (pC ops) [] ρ h k kp
 | true=>match An ops with
  | some items=>nF { cx with rb:=false } ops h.length items (ai1 ops.length .junk) ρ (B3 (Dy items) h) k kp
  | none=>none
def FY (L:Nat) (ρ:List kN) (h:kO):Option R:=some (.normal,pack L ρ,h)
def FX (L:Nat) (e:Ex) (ρ:List kN) (h:kO):Option R:=some (e,pack L ρ,h)
def aw7 (b:Bool) (ke:Ex→List kN→kO→Option R) (ρ:List kN):kN→kO→Option R :=
 match b with
 | true=>fun v h=>ke (.pan v) ρ h
 | false=>fun _ _=>none
def Ex.vS (m:Nat) (h:kO):Ex→Ex
 | .pan v=>.pan (v.vS m h)
 | e=>e
def kZ (m:Nat) (e:Ex) (vs:List kN) (h:kO):Option R:=(vT m h).map fun h'=>(e.vS m h,vs.map (·.vS m h),h')
def Cy (j:Bool) (m L:Nat) (e:Ex) (ρ:List kN) (h:kO):Option R :=
 match j with
 | false=>some (e,pack L ρ,h)
 | true=>kZ m e (pack L ρ) h
def endRound (m L:Nat) (e:Ex) (ρ:List kN) (h:kO):Option R:=kZ m e (pack L ρ) h
def Bc (k:Bool) (m L:Nat) (e:Ex) (ρ:List kN) (h:kO):Option R :=
 match k with
 | false=>endRound m L e ρ h
 | true=>some (e,pack L ρ,h)
def evalCode (cx:Cx):Code→Nat→List kN→kO→(List kN→kO→Option R)→(Ex→List kN→kO→Option R)→Option R
 | .skip,_,ρ,h,kn,_=>kn ρ h
 | .region _ ops draw,_,ρ,h,kn,ke=>uS cx ops.toList draw ρ h kn (aw7 cx.pan ke ρ)
 | .seq a b,L,ρ,h,kn,ke=>evalCode cx a (L ||| ue cx.full b) ρ h (fun ρ' h'=>evalCode cx b L ρ' h' kn ke) ke
 | .cond c a b,L,ρ,h,kn,ke =>
  bif uW a&&uW b then
   (kV (qF cx.A ρ c) (evalCode cx a L ρ h (Cy cx.jt h.length L .normal) (Cy cx.jt h.length L)) (evalCode cx b L ρ h (Cy cx.jt h.length L .normal) (Cy cx.jt h.length L))).bind fun r =>
    bif cx.pan || (leaves [] a || leaves [] b) then r.1.l_ (kn (unpack cx.n L r.2.1) r.2.2) fun e=>ke e (unpack cx.n L r.2.1) r.2.2
    else r.1.pR (kn (unpack cx.n L r.2.1) r.2.2)
  else kV (qF cx.A ρ c) (evalCode cx a L ρ h kn ke) (evalCode cx b L ρ h kn ke)
 | .block id c,L,ρ,h,kn,ke =>
  bif decide (2≤zG id c+bif uW c then 1 else 0) then
   (evalCode cx c L ρ h (Cy cx.jt h.length L .normal) (Cy cx.jt h.length L)).bind fun r=>r.1.inBlock id (kn (unpack cx.n L r.2.1) r.2.2) fun e=>ke e (unpack cx.n L r.2.1) r.2.2
  else evalCode cx c L ρ h kn fun e ρ' h'=>e.inBlock id (kn ρ' h') fun e=>ke e ρ' h'
 | .loop c,L,ρ,h,_,ke =>
  (cx.lp (fun s=>evalCode cx c (L ||| ue cx.full c) (unpack cx.n (L ||| ue cx.full c) s.1) s.2 (Bc cx.lkp h.length (L ||| ue cx.full c) .normal) (Bc cx.lkp h.length (L ||| ue cx.full c)))
    (pack (L ||| ue cx.full c) ρ,h)).bind
   fun r=>r.1.l_ none fun e=>ke e (unpack cx.n (L ||| ue cx.full c) r.2.1) r.2.2
 | .scope c,L,ρ,h,kn,ke=>evalCode cx c L ρ h kn ke
 | .label _,_,ρ,h,kn,_=>kn ρ h
 | .exit id,_,ρ,h,_,ke=>ke (.exit id) ρ h
 | .ret,_,ρ,h,_,ke=>ke .ret ρ h
 | _,_,_,_,_,_=>none
def BW:Code→Bool
 | .skip | .exit _ | .ret=>true
 | .region _ ops _=>ops.toList.all fun o=>match o.op with | .defer _=>false | _=>true
 | .seq a b | .cond _ a b=>BW a&&BW b
 | .block _ c | .loop c=>BW c
 | _=>false
def yS (fn:Func):Nat:=fn.results.toList.foldl (fun m r=>match r with | .tmp t=>m ||| zS t | .cell a _=>m ||| zS a) 0
def wH (P:Program) (ρ:List kN) (h:kO):ResultVar→Option kN
 | .tmp t=>some (ρ.getD t .junk)
 | .cell a t=>match qG P t,mX P t with
  | some g,some n=>kY g n h (ρ.getD a .junk)
  | _,_=>none
def wP (P:Program) (ρ:List kN) (h:kO):List ResultVar→(List kN→Option (mR×kO))→Option (mR×kO)
 | [],k=>k []
 | .tmp t::r,k=>wP P ρ h r fun vs=>k (ρ.getD t .junk::vs)
 | .cell a t::r,k=>match qG P t,mX P t with
  | some g,some n=>(kY g n h (ρ.getD a .junk)).bind fun v=>wP P ρ h r fun vs=>k (v::vs)
  | _,_=>none
def oneOf:List kN→kN
 | [v]=>v
 | vs=>.tuple vs
def oM (m:Nat) (v:kN) (h:kO):Option (mR×kO):=(vT m h).map fun h'=>(.ret (v.vS m h).kP,h')
def CA (m:Nat) (v:kN) (h:kO):Option (mR×kO):=(vT m h).map fun h'=>(.ret (v.vS m h),h')
def atU (m:Nat) (v:kN) (h:kO):Option (mR×kO):=(BN h v).bind fun y=>oM m y.1 y.2
def kN.vR (v:kN):List Nat:=match tS v with | some id=>[id] | none=>[]
def kN.refs:kN→List Nat
 | .agg cs=>cs.flatMap kN.vR
 | .tuple vs=>vs.flatMap fun v=>match v with | .agg cs=>cs.flatMap kN.vR | v=>v.vR
 | v=>v.vR
def lN.refs:lN→List Nat
 | .cells cs=>cs.flatMap kN.vR
 | .vec _ _ cs=>cs.flatMap kN.vR
 | .tcells _ cs=>cs.flatMap kN.vR
 | .map es=>es.flatMap fun e=>e.2.vR
 | _=>[]
def kN.xC (f:Nat→Nat):kN→kN
 | .ptr id o=>.ptr (f id) o
 | .mslice id a b c=>.mslice (f id) a b c
 | .vslice id t a b c=>.vslice (f id) t a b c
 | .vptr id t o=>.vptr (f id) t o
 | .map id=>.map (f id)
 | .slice rows (.own id)=>.slice rows (.own (f id))
 | v=>v
def kN.pO (f:Nat→Nat):kN→kN
 | .agg cs=>.agg (cs.map (kN.xC f))
 | .tuple vs=>.tuple (vs.map fun v=>match v with | .agg cs=>.agg (cs.map (kN.xC f)) | v=>v.xC f)
 | v=>v.xC f
def kN.MA (p:Nat→Bool):kN→Bool
 | .agg _=>false
 | .tuple _=>false
 | .iface _ _=>false
 | .func _ first cap=>first.isEmpty&&cap.isEmpty
 | v=>match tS v with | some r=>p r | none=>true
def kN.ok (p:Nat→Bool):kN→Bool
 | .agg cs=>cs.all (kN.MA p)
 | .tuple vs=>vs.all fun v=>match v with | .agg cs=>cs.all (kN.MA p) | v=>v.MA p
 | v=>v.MA p
def lN.pO (f:Nat→Nat):lN→lN
 | .cells cs=>.cells (cs.map (kN.xC f))
 | .vec t s cs=>.vec t s (cs.map (kN.xC f))
 | .tcells t cs=>.tcells t (cs.map (kN.xC f))
 | .map es=>.map (es.map fun e=>(e.1,e.2.xC f))
 | b=>b
def lN.ok (p:Nat→Bool):lN→Bool
 | .cells cs=>cs.all (kN.MA p)
 | .vec _ _ cs=>cs.all (kN.MA p)
 | .tcells _ cs=>cs.all (kN.MA p)
 | .map es=>es.all fun e=>e.2.MA p
 | _=>true
def mR.pO (f:Nat→Nat):mR→mR
 | .ret v=>.ret (v.pO f)
 | .pan v=>.pan (v.pO f)
def mR.ok (p:Nat→Bool):mR→Bool
 | .ret v=>v.ok p
 | .pan v=>v.ok p
def AU:List Nat→Nat→Nat
 | [],_=>0
 | a::r,i=>bif a == i then 0 else AU r i+1
def uV:List Nat→Bool
 | []=>true
 | a::r=>!(r.contains a)&&uV r
def Ow (acc:List Nat):List Nat→List Nat
 | []=>acc
 | i::r=>Ow (bif acc.contains i then acc else acc++[i]) r
def P_ (h:kO):Nat→List Nat→List Nat
 | 0,acc=>acc
 | n+1,acc=>P_ h n (Ow acc (acc.flatMap fun i=>match h[i]? with | some b=>b.refs | none=>[]))
def reach (h:kO) (args:List kN):List Nat:=P_ h 3 (Ow [] (args.flatMap kN.refs))
def yO:List Nat→kO→kO→kO
 | i::is,b::bs,h=>yO is bs (h.set i b)
 | _,_,h=>h
def Kx (ids:List Nat) (args:List kN) (h:kO):Bool :=
 args.all (kN.ok fun i=>ids.contains i)&&(uV ids&&ids.all fun i=>match h[i]? with | some b=>b.ok fun i=>ids.contains i | none=>false)
def zK (ids:List Nat) (h:kO):kO:=ids.map fun i=>(h.getD i .free).pO (AU ids)
def GJ (ids:List Nat) (h:kO) (r:mR×kO):Option (mR×kO) :=
 bif r.2.length == ids.length&&(r.2.all (lN.ok fun j=>decide (j<ids.length))&&r.1.ok fun j=>decide (j<ids.length))
 then some (r.1.pO fun j=>ids.getD j 0,yO ids (r.2.map (lN.pO fun j=>ids.getD j 0)) h) else none
def Xv (K:kT) (ids:List Nat):kT:=fun f args h =>
 bif Kx ids args h then(K f (args.map (kN.pO (AU ids))) (zK ids h)).bind (GJ ids h) else none
def ao5 (K:kT):kT:=fun f args h=>Xv K (reach h args) f args h
def vJ (m:Nat) (v:kN) (h:kO):List Nat:=Ow (ar2 m) (reach h [v])
def D_ (ids:List Nat) (h:kO):Bool:=uV ids&&ids.all fun i=>match h[i]? with | some b=>b.ok fun i=>ids.contains i | none=>false
def FO (ids:List Nat) (v:kN) (h:kO):Option (mR×kO):=bif v.ok (fun i=>ids.contains i)&&D_ ids h then some (.ret (v.pO (AU ids)),zK ids h) else none
def zY (m:Nat) (v:kN) (h:kO):Option (mR×kO):=FO (vJ m v h) v h
def finish (A:xS) (f:Nat) (m:Nat) (v:kN) (h:kO):Option (mR×kO) :=
 bif A.esc f then some (.ret v,h) else bif A.grow f then CA m v h else bif A.frr f then atU m v h else bif A.out f then zY m v h else oM m v h
def Ex.oH (e:Ex) (x:Option (mR×kO)):Option (mR×kO) :=
 match e with
 | .normal=>x
 | .ret=>x
 | _=>none
def Ex.Ga (e:Ex) (x:Option (mR×kO)) (xp:kN→Option (mR×kO)):Option (mR×kO) :=
 match e with
 | .normal=>x
 | .ret=>x
 | .pan v=>xp v
 | _=>none
def OO (m:Nat) (v:kN) (h:kO):Option (mR×kO):=(vT m h).map fun h'=>(.pan (v.vS m h).kP,h')
def Kk (P:Program) (A:xS) (f:Nat) (fn:Func) (m:Nat) (e:Ex) (ρ:List kN) (h:kO):Option (mR×kO) :=
 bif A.pan f then e.Ga (wP P ρ h fn.results.toList fun vs=>finish A f m (oneOf vs) h) fun v=>bif A.kp f then some (.pan v,h) else OO m v h
 else e.oH (wP P ρ h fn.results.toList fun vs=>finish A f m (oneOf vs) h)
def BT (o:Oper):Bool:=o.guard.isNone&&match o.op with | .call c=>(match c.callee with | .builtin .recover=>true | _=>false) | _=>false
def Tu (o:Oper):Option Operand :=
 match o.guard,o.op with
 | none,.defer c=>match c.callee with
  | .value f=>bif c.args.isEmpty&&o.dst.isNone then some f else none
  | _=>none
 | _,_=>none
def z5 (ops:List Oper):Option Operand:=(ops.getLast?).bind Tu
def Br (m:Nat):Code→Bool
 | .region _ ops _=>ops.toList.all fun o=>match o.dst with | some d=>!(m.testBit d) | none=>true
 | .seq a b | .cond _ a b=>Br m a&&Br m b
 | .block _ c | .loop c=>Br m c
 | .skip | .exit _ | .ret=>true
 | _=>false
def Ex.OK (e:Ex) (xn:Option R) (xp:kN→Option R):Option R :=
 match e with
 | .normal=>xn
 | .ret=>xn
 | .pan v=>xp v
 | _=>none
def Ex.Uw (e:Ex) (x:Option kO):Option kO :=
 match e with
 | .normal=>x
 | .ret=>x
 | _=>none
def uQ (cx:Cx) (g:Nat) (caps:List kN) (pv:Option kN) (h:kO):Option kO :=
 match cx.P.funcs[g]? with
 | some fn=>match fn.body with
  | some (.seq (.region _ ops false) c)=>match ops.toList with
   | o::_=>bif BT o&&decide (caps.length≤fn.ntmps)&&fn.results.isEmpty&&!(fn.name == "runtime.NumGoroutine") then
     (nF { cx with n:=fn.ntmps,full:=2^fn.ntmps-1,pan:=false } ops.toList 0 (pC ops.toList).tail []
      (pD (caps++ai1 (fn.ntmps-caps.length) (.tuple [])) o.dst (pv.getD .niliface)) h
      (fun ρ' h'=>evalCode { cx with n:=fn.ntmps,full:=2^fn.ntmps-1,pan:=false } c 0 ρ' h' (FY 0) (FX 0)) (fun _ _=>none)).bind
      fun r=>r.1.Uw (vT h.length r.2.2)
    else none
   | []=>none
  | _=>none
 | none=>none
def xY (cx:Cx) (b:Code) (L:Nat) (fv:kN) (ρ:List kN) (h:kO):Option R :=
 bif Br L b then(uO fv).bind fun g =>
  (evalCode { cx with pan:=true } b L ρ h (FY L) (FX L)).bind fun r =>
   r.1.OK ((uQ cx g.1 (g.2.1++g.2.2) none r.2.2).map fun h2=>(.ret,r.2.1,h2)) fun v=>(uQ cx g.1 (g.2.1++g.2.2) (some v) r.2.2).map fun h2=>(.ret,pack L ρ,h2)
 else none
def Ex.TG (e:Ex) (x:Option R):Option R :=
 match e with
 | .ret=>x
 | _=>none
def Ks (L:Nat) (e:Ex) (ρ:List kN) (h:kO):Option R:=e.TG (some (.ret,pack L ρ,h))
def rF (cx:Cx):Code→Nat→List kN→kO→Option R
 | .seq (.region id ops false) b,L,ρ,h=>match z5 ops.toList with
  | some f=>nF cx ops.toList 0 (pC ops.toList).dropLast [] ρ h (fun ρ' h'=>xY cx b L (qF cx.A ρ' f) ρ' h') (fun _ _=>none)
  | none=>evalCode cx (.region id ops false) (L ||| ue cx.full b) ρ h (fun ρ' h'=>rF cx b L ρ' h') (Ks L)
 | .seq a b,L,ρ,h=>evalCode cx a (L ||| ue cx.full b) ρ h (fun ρ' h'=>rF cx b L ρ' h') (Ks L)
 | _,_,_,_=>none
def Be (cx:Cx) (d:Bool) (c:Code) (L:Nat) (ρ:List kN) (h:kO):Option R :=
 match d with
 | true=>rF { cx with pan:=false } c L ρ h
 | false=>evalCode cx c L ρ h (FY L) (FX L)
def Lg (P:Program) (A:xS) (K:kT) (lp:(List kN×kO→Option R)→List kN×kO→Option R) (f:Nat) (fn:Func) (c:Code) (args:List kN) (h:kO):Option (mR×kO) :=
 (Be { P,A,K,lp,n:=fn.ntmps,full:=2^fn.ntmps-1,pan:=A.pan f,vec:=A.adF f,frz:=A.frz f,vlit:=A.Ub f,vmk:=A.vmk f,jt:=A.jt f,lkp:=A.lkp f,rb:=A.rb f,frl:=A.frl f,tb:=A.tb f,ck:=A.ck f } (A.dfr f) c (yS fn)
   (args++ai1 (fn.ntmps-args.length) (.tuple [])) h).bind
  fun r=>Kk P A f fn h.length r.1 (unpack fn.ntmps (yS fn) r.2.1) r.2.2
def rV:Nat→(List kN×kO→Option R)→List kN×kO→Option R
 | 0,_,_=>none
 | n+1,F,s=>(F s).bind fun r=>r.1.l_ (rV n F r.2) fun e=>some (e,r.2)
def tR (out:Bool) (h:kO) (r:mR×kO):Option (mR×kO):=match r.2 with
 | []=>some (r.1,h)
 | _=>bif out&&(r.2.all (lN.ok fun j=>decide (j<r.2.length))&&r.1.ok fun j=>decide (j<r.2.length)) then some (r.1.pO fun j=>h.length+j,h++r.2.map (lN.pO fun j=>h.length+j)) else none
def lG (A:xS) (K:kT):kT:=fun f args h =>
 bif A.pure f then(bif args.all (kN.rI 0) then(K f args []).bind (tR (A.out f) h) else none) else bif A.sub f then ao5 K f args h else K f args h
abbrev U3:=(List kN×kO→Option R)→List kN×kO→Option R
def C8 (P:Program) (A:xS) (lp:U3) (K:kT) (f:Nat) (args:List kN) (h:kO):Option (mR×kO) :=
 match A.prm f with
 | some k=>O9 A.bld k args h
 | none=>match P.funcs[f]? with
  | some fn=>match fn.body with
   | some c=>bif decide (args.length≤fn.ntmps)&&!(fn.name == "runtime.NumGoroutine") then(Lg P A (lG A K) lp f fn c args h) else none
   | none=>none
  | none=>none
def Uz (P:Program) (A:xS) (lp:U3):Nat→kT
 | 0,_,_,_=>none
 | n+1,f,args,h=>C8 P A lp (Uz P A lp n) f args h
end
end
section
open Go Go.RowKit
structure Gh where
 H:Nat→Nat→Option Value
 mO:Nat→Nat
 cur:Nat→Value
inductive oL (H:Nat→Nat→Option Value):kN→Value→Prop
 | junk (V:Value):oL H .junk V
 | bool (b:Bool):oL H (.bool b) (.bool b)
 | int (k:IntKind) (n:Int):oL H (.int k n) (.int k n)
 | str (s:List UInt8):oL H (.str s) (.string ⟨s.toArray⟩)
 | agg (cs:List kN) (C:Array Value) (hl:cs.length=C.size) (h:∀(i:Nat) (v:kN),cs[i]?=some v→oL H v (C.getD i undef)):oL H (.agg cs) (.agg C)
 | tuple (cs:List kN) (C:Array Value) (hl:cs.length=C.size) (h:∀(i:Nat) (v:kN),cs[i]?=some v→oL H v (C.getD i undef)):oL H (.tuple cs) (.tuple C)
 | slice0 (a:Option Addr) (cap:Nat):oL H (.slice [] .no) (.slice a 0 cap)
 | slice (rows:List (List kN)) (b off cap sz:Nat) (V:Nat→Value) (hr:∀r∈rows,r.length=sz) (hc:rows.length≤cap)
   (hH:∀(i j:Nat) (row:List kN) (v:kN),rows[i]?=some row→row[j]?=some v→H b (off+(i*sz+j))=some (V (i*sz+j)))
   (hk:∀(i j:Nat) (row:List kN) (v:kN),rows[i]?=some row→row[j]?=some v→v.lS=true)
   (hV:∀(i j:Nat) (row:List kN) (v:kN),rows[i]?=some row→row[j]?=some v→oL H v (V (i*sz+j))) :
   oL H (.slice rows .no) (.slice (some ⟨b,off,none⟩) rows.length cap)
 | pptr (cs:List kN) (b off:Nat) (V:Nat→Value)
   (hH:∀(j:Nat) v,cs[j]?=some v→H b (off+j)=some (V j))
   (hk:∀(j:Nat) (v:kN),cs[j]?=some v→v.lS=true)
   (hV:∀(j:Nat) v,cs[j]?=some v→oL H v (V j)):oL H (.pptr cs) (.pointer (some ⟨b,off,none⟩))
 | nilptr:oL H .nilptr (.pointer none)
 | nilmap:oL H .nilmap (.map none)
 | nilfunc:oL H .nilfunc .nilFunc
 | niliface:oL H .niliface .nilIface
 | func (f:Nat):oL H (.func f [] []) (.func (.func f) #[] #[])
 | iface (t:Nat) (v:kN) (V:Value) (h:oL H v V):oL H (.iface t v) (.iface t V)
theorem oL.mono {H H':Nat→Nat→Option Value}(hh:∀b k v,H b k=some v→H' b k=some v) {v:kN}{V:Value}(h:oL H v V):oL H' v V:=by
 induction h with
 | junk V=>exact .junk V
 | bool b=>exact .bool b
 | int k n=>exact .int k n
 | str s=>exact .str s
 | agg cs C hl _ ih=>exact .agg cs C hl ih
 | tuple cs C hl _ ih=>exact .tuple cs C hl ih
 | slice0 a cap=>exact .slice0 a cap
 | slice rows b off cap sz V hr hc hH hk _ ih=>exact .slice rows b off cap sz V hr hc (fun i j row v h1 h2=>hh _ _ _ (hH i j row v h1 h2)) hk ih
 | pptr cs b off V hH hk _ ih=>exact .pptr cs b off V (fun j v h1=>hh _ _ _ (hH j v h1)) hk ih
 | nilptr=>exact .nilptr
 | nilmap=>exact .nilmap
 | nilfunc=>exact .nilfunc
 | niliface=>exact .niliface
 | func f=>exact .func f
 | iface t v V _ ih=>exact .iface t v V ih
def live (h:kO) (id:Nat):Prop:=∃b,h[id]?=some b∧b≠.free
def uA (h:kO) (id:Nat):Prop:=∃b,h[id]?=some b∧b≠.free∧∀n sz t,b≠.front n sz t
def wY:Value→Nat
 | .slice _ n _=>n
 | _=>0
inductive k_ (G:Gh) (h:kO):kN→Value→Prop
 | p (v:kN) (V:Value) (hp:oL G.H v V):k_ G h v V
 | agg (cs:List kN) (C:Array Value) (hl:cs.length=C.size) (hh:∀(i:Nat) (v:kN),cs[i]?=some v→k_ G h v (C.getD i undef)):k_ G h (.agg cs) (.agg C)
 | tuple (cs:List kN) (C:Array Value) (hl:cs.length=C.size) (hh:∀(i:Nat) (v:kN),cs[i]?=some v→k_ G h v (C.getD i undef)):k_ G h (.tuple cs) (.tuple C)
 | nil:k_ G h (.slice [] .nil) (.slice none 0 0)
 | own (rows:List (List kN)) (id n sz:Nat) (V:Value) (hp:oL G.H (.slice rows .no) V) {t:Nat}(hf:h[id]?=some (.front n sz t)) (hn:rows.length≤n) (hr:∀r∈rows,r.length=sz) (hc:rows.length=n→V=G.cur id):k_ G h (.slice rows (.own id)) V
 | ownv {rows:List (List kN)}(id:Nat) (V:Value) (hp:oL G.H (.slice rows .no) V) (hb:uA h id):k_ G h (.slice rows (.own id)) V
 | vslice (id tot off len sz b cap:Nat) (hl:uA h id) (ht:tot≤wY (G.cur id)) (hc:len≤cap)
   (hv:tot=wY (G.cur id)→∃l cap0,G.cur id=.slice (some ⟨b,0,none⟩) tot cap0∧off=l*sz∧l+len≤tot∧cap=cap0-l):k_ G h (.vslice id tot off len sz) (.slice (some ⟨b,off,none⟩) len cap)
 | vptr (id tot off b:Nat) (hl:uA h id) (ht:tot≤wY (G.cur id)) (hv:tot=wY (G.cur id)→∃cap0,G.cur id=.slice (some ⟨b,0,none⟩) tot cap0):k_ G h (.vptr id tot off) (.pointer (some ⟨b,off,none⟩))
 | ptr (id off:Nat) (hl:live h id):k_ G h (.ptr id off) (.pointer (some ⟨G.mO id,off,none⟩))
 | mslice (id off len sz cap:Nat) (hl:live h id) (hc:len≤cap):k_ G h (.mslice id off len sz) (.slice (some ⟨G.mO id,off,none⟩) len cap)
 | mslice0 (id off sz cap:Nat) (a:Option Addr):k_ G h (.mslice id off 0 sz) (.slice a 0 cap)
 | map (id:Nat) (hl:live h id):k_ G h (.map id) (.map (some (G.mO id)))
 | func (f:Nat) (first cap:List kN) (F C:Array Value) (hlf:first.length=F.size) (hlc:cap.length=C.size)
   (hf:∀(i:Nat) (v:kN),first[i]?=some v→k_ G h v (F.getD i undef)) (hc:∀(i:Nat) (v:kN),cap[i]?=some v→k_ G h v (C.getD i undef)):k_ G h (.func f first cap) (.func (.func f) F C)
 | iface (t:Nat) (v:kN) (V:Value) (hh:k_ G h v V):k_ G h (.iface t v) (.iface t V)
def owner (G:Gh) (h:kO) (id:Nat):Option Nat :=
 match h[id]? with
 | some (.cells _) | some (.map _) | some (.tcells _ _)=>some (G.mO id)
 | some (.front _ _ _) | some (.vec _ _ _)=>(G.cur id).ownBlock
 | _=>none
def xE (G:Gh) (h:kO) (w:World) (id:Nat):lN→Prop
 | .free=>True
 | .gone=>True
 | .cells cs=>∃C e,w.heap[G.mO id]?=some (.cells C e (0,0))∧C.size=cs.length∧(∀k,G.H (G.mO id) k=none) ∧
   ∀(i:Nat) (v:kN),cs[i]?=some v→v.lS=true∧k_ G h v (C.getD i undef)
 | .tcells e cs=>∃C,w.heap[G.mO id]?=some (.cells C e (0,0))∧C.size=cs.length∧(∀k,G.H (G.mO id) k=none) ∧
   ∀(i:Nat) (v:kN),cs[i]?=some v→v.lS=true∧k_ G h v (C.getD i undef)
 | .front n sz t=>(n=0∧G.cur id=.slice none 0 0)∨∃b cap C e,G.cur id=.slice (some ⟨b,0,none⟩) n cap∧w.heap[b]?=some (.cells C e (0,0)) ∧
   n≤cap∧cap≤maxLen∧C.size=cap*sz∧0<sz∧(∀k,n*sz≤k→G.H b k=none)∧(t≠0→e+1=t)
 | .vec tot sz cs=>∃b cap C e,G.cur id=.slice (some ⟨b,0,none⟩) tot cap∧w.heap[b]?=some (.cells C e (0,0))∧tot≤cap∧cap≤maxLen∧C.size=cap*sz∧0<sz∧cs.length=tot*sz∧(∀k,G.H b k=none) ∧
   ∀(i:Nat) (v:kN),cs[i]?=some v→v.lS=true∧k_ G h v (C.getD i undef)
 | .map es=>∃E clock,w.heap[G.mO id]?=some (.map E clock)∧E.size=es.length∧(∀k,G.H (G.mO id) k=none) ∧
   (∀(i:Nat) (kv:kN×kN),es[i]?=some kv→∃m,E[i]?=some m∧PY kv.1=true∧oL G.H kv.1 m.key∧k_ G h kv.2 m.val)∧MapKept.Stamped E clock
structure Inv (G:Gh) (h:kO) (w:World):Prop where
 ok:∀b k v,G.H b k=some v→w.cell? ⟨b,k,none⟩=some v
 mO:∀id bl,h[id]?=some bl→xE G h w id bl
 inj:∀i j b,owner G h i=some b→owner G h j=some b→i=j
def Kind (G G':Gh) (id:Nat):lN→lN→Prop
 | .free,_=>True
 | .gone,.gone=>G'.mO id=G.mO id∧G'.cur id=G.cur id
 | .cells a,.cells b=>a.length=b.length∧G'.mO id=G.mO id∧G'.cur id=G.cur id
 | .map _,.map _=>G'.mO id=G.mO id∧G'.cur id=G.cur id
 | .tcells t a,.tcells t' b=>t'=t∧a.length=b.length∧G'.mO id=G.mO id∧G'.cur id=G.cur id
 | .front n sz _,.front n' sz' _=>n≤n'∧(n=n'→G'.cur id=G.cur id)∧G'.mO id=G.mO id∧(0<n→sz'=sz)
 | .front n _ _,.vec _ _ _=>n=0∧G'.mO id=G.mO id
 | .front _ _ _,.gone=>G'.mO id=G.mO id
 | .vec _ _ _,.vec _ _ _=>G'.mO id=G.mO id∧wY (G.cur id)≤wY (G'.cur id)∧(wY (G.cur id)=wY (G'.cur id)→G'.cur id=G.cur id)
 | .vec _ _ _,.gone=>G'.mO id=G.mO id∧wY (G.cur id)≤wY (G'.cur id)∧(wY (G.cur id)=wY (G'.cur id)→G'.cur id=G.cur id)
 | _,_=>False
structure Ext (G:Gh) (h:kO) (w:World) (G':Gh) (h':kO) (w':World):Prop where
 os:w'.os=w.os
 tape:w'.tape=w.tape
 output:w'.output=w.output
 size:w.heap.size≤w'.heap.size
 frame:∀b,b<w.heap.size→(∀id,owner G h id≠some b)→w'.heap[b]?=w.heap[b]?∧∀k,G'.H b k=G.H b k
 hmono:∀b k v,G.H b k=some v→G'.H b k=some v
 own:∀id b,owner G' h' id=some b→b<w.heap.size→owner G h id=some b
 kinds:∀id bl,h[id]?=some bl→∃bl',h'[id]?=some bl'∧Kind G G' id bl bl'
theorem Kind.refl (G:Gh) (id:Nat) (b:lN):Kind G G id b b:=by cases b <;> simp [Kind]
theorem Kind.trans {G G' G'':Gh}{id:Nat}{a b c:lN}(h:Kind G G' id a b) (h':Kind G' G'' id b c):Kind G G'' id a c:=by
 cases a <;> cases b <;> cases c <;> simp only [Kind] at h h' ⊢ <;> first
  | exact h.elim
  | exact h'.elim
  | trivial
  | exact⟨h'.1.trans h.1,h'.2.trans h.2⟩
  | exact⟨h.1.trans h'.1,h'.2.1.trans h.2.1,h'.2.2.trans h.2.2⟩
  | exact⟨by omega,by omega,h'.2.2.1.trans h.2.2.1,fun e=>by rw [h'.2.2.2 (by omega),h.2.2.2 e]⟩
  | exact⟨by omega,fun e=>by rw [h'.2.1 (by omega),h.2.1 (by omega)],h'.2.2.1.trans h.2.2.1,fun e=>by rw [h'.2.2.2 (by omega),h.2.2.2 e]⟩
  | exact⟨h'.1.trans h.1,by omega,fun e=>by rw [h'.2.2 (by omega),h.2.2 (by omega)]⟩
  | exact⟨h'.1.trans h.1,by have:=h'.2;rw [h'.2];exact h.2.1,fun e=>by rw [h'.2] at e ⊢;exact h.2.2 e⟩
  | exact⟨h.1,h'.1.trans h.2⟩
  | exact⟨by omega,h'.2.trans h.2.2.1⟩
  | exact h'.trans h.2.2.1
  | exact h'.1.trans h
  | exact h'.1.trans h.2
  | exact⟨h'.1.trans h.1,h.2.1.trans h'.2.1,h'.2.2.1.trans h.2.2.1,h'.2.2.2.trans h.2.2.2⟩
  | skip
theorem Ext.refl (G:Gh) (h:kO) (w:World):Ext G h w G h w :=
 ⟨rfl,rfl,rfl,al1 _,fun _ _ _=>⟨rfl,fun _=>rfl⟩,fun _ _ _ h=>h,fun _ _ h _=>h,fun id bl hb=>⟨bl,hb,Kind.refl G id bl⟩⟩
theorem Ext.trans {G G' G'':Gh}{h h' h'':kO}{w w' w'':World}(a:Ext G h w G' h' w') (b:Ext G' h' w' G'' h'' w''):Ext G h w G'' h'' w'' where
 os:=b.os.trans a.os
 tape:=b.tape.trans a.tape
 output:=b.output.trans a.output
 size:=Nat.le_trans a.size b.size
 frame:=fun c hc hn=>by
  obtain⟨h1,h2⟩:=a.frame c hc hn
  obtain⟨h3,h4⟩:=b.frame c (Nat.lt_of_lt_of_le hc a.size) (fun id ho=>hn id (a.own id c ho hc))
  exact⟨h3.trans h1,fun k=>(h4 k).trans (h2 k)⟩
 hmono:=fun c k v hv=>b.hmono c k v (a.hmono c k v hv)
 own:=fun id c ho hc=>a.own id c (b.own id c ho (Nat.lt_of_lt_of_le hc a.size)) hc
 kinds:=fun id bl hb=>by
  obtain⟨b1,h1,k1⟩:=a.kinds id bl hb
  obtain⟨b2,h2,k2⟩:=b.kinds id b1 h1
  exact⟨b2,h2,k1.trans k2⟩
structure Cb (G:Gh) (h:kO) (G':Gh) (h':kO):Prop where
 hmono:∀b k v,G.H b k=some v→G'.H b k=some v
 kinds:∀id bl,h[id]?=some bl→∃bl',h'[id]?=some bl'∧Kind G G' id bl bl'
theorem Ext.toMono {G G':Gh}{h h':kO}{w w':World}(a:Ext G h w G' h' w'):Cb G h G' h':=⟨a.hmono,a.kinds⟩
theorem Kind.mO {G G':Gh}{id:Nat}{a b:lN}(h:Kind G G' id a b) (ha:a≠.free):b≠.free∧G'.mO id=G.mO id:=by
 cases a <;> cases b <;> simp_all [Kind]
theorem Kind.nf {G G':Gh}{id:Nat}{a b:lN}(h:Kind G G' id a b) (ha:a≠.free) (hn:∀n sz t,a≠.front n sz t):∀n sz t,b≠.front n sz t:=by
 cases a <;> cases b <;> simp_all [Kind]
theorem Kind.cur {G G':Gh}{id:Nat}{a b:lN}(h:Kind G G' id a b) (ha:a≠.free) (hn:∀n sz t,a≠.front n sz t):wY (G.cur id)≤wY (G'.cur id)∧(wY (G.cur id)=wY (G'.cur id)→G'.cur id=G.cur id):=by
 cases a <;> cases b <;> simp_all [Kind]
theorem Cb.live {G G':Gh}{h h':kO}(m:Cb G h G' h') {id:Nat}(hl:live h id):live h' id∧G'.mO id=G.mO id:=by
 obtain⟨bl,h1,h2⟩:=hl
 obtain⟨bl',h3,h4⟩:=m.kinds id bl h1
 exact⟨⟨bl',h3,(h4.mO h2).1⟩,(h4.mO h2).2⟩
theorem Cb.nf {G G':Gh}{h h':kO}(m:Cb G h G' h') {id:Nat}(hl:uA h id):uA h' id∧wY (G.cur id)≤wY (G'.cur id)∧(wY (G.cur id)=wY (G'.cur id)→G'.cur id=G.cur id):=by
 obtain⟨bl,h1,h2,h3⟩:=hl
 obtain⟨bl',h4,h5⟩:=m.kinds id bl h1
 exact⟨⟨bl',h4,(h5.mO h2).1,h5.nf h2 h3⟩,h5.cur h2 h3⟩
theorem k_.mono {G G':Gh}{h h':kO}(m:Cb G h G' h') {v:kN}{V:Value}(r:k_ G h v V):k_ G' h' v V:=by
 induction r with
 | p v V hp=>exact .p v V (hp.mono m.hmono)
 | agg cs C hl _ ih=>exact .agg cs C hl ih
 | tuple cs C hl _ ih=>exact .tuple cs C hl ih
 | nil=>exact .nil
 | own rows id n sz V hp hf hn hr hc =>
  obtain⟨bl',h3,h4⟩:=m.kinds id _ hf
  cases bl' with
  | front n' sz' t' =>
   obtain⟨h6,h7,_,h8⟩:=h4
   exact .own rows id n' sz' V (hp.mono m.hmono) h3 (by omega) (fun r hm=>by rw [h8 (by have:=List.length_pos_of_mem hm;omega)];exact hr r hm)
    (fun e=>by rw [h7 (by omega)];exact hc (by omega))
  | vec tot sz' cs =>
   obtain rfl:rows=[]:=List.eq_nil_of_length_eq_zero (by have:=h4.1;omega)
   exact .ownv id V (hp.mono m.hmono) ⟨_,h3,by simp,by simp⟩
  | gone =>
   exact .ownv id V (hp.mono m.hmono) ⟨_,h3,by simp,by simp⟩
  | _=>exact h4.elim
 | ownv id V hp hb=>exact .ownv id V (hp.mono m.hmono) (m.nf hb).1
 | vslice id tot off len sz b cap hl ht hc hv =>
  obtain⟨h1,h2,h3⟩:=m.nf hl
  exact .vslice id tot off len sz b cap h1 (by omega) hc fun e=>by rw [h3 (by omega)];exact hv (by omega)
 | vptr id tot off b hl ht hv =>
  obtain⟨h1,h2,h3⟩:=m.nf hl
  exact .vptr id tot off b h1 (by omega) fun e=>by rw [h3 (by omega)];exact hv (by omega)
 | ptr id off hl=>obtain⟨h1,h2⟩:=m.live hl;rw [←h2];exact .ptr id off h1
 | mslice id off len sz cap hl hc=>obtain⟨h1,h2⟩:=m.live hl;rw [←h2];exact .mslice id off len sz cap h1 hc
 | mslice0 id off sz cap a=>exact .mslice0 id off sz cap a
 | map id hl=>obtain⟨h1,h2⟩:=m.live hl;rw [←h2];exact .map id h1
 | func f first cap F C hlf hlc _ _ ihf ihc=>exact .func f first cap F C hlf hlc ihf ihc
 | iface t v V _ ih=>exact .iface t v V ih
end
section
open Go Go.RowKit
section inv
variable {G:Gh}{h:kO}{V:Value}
theorem k_.oN {k:IntKind}{n:Int}(r:k_ G h (.int k n) V):V=.int k n:=by
 cases r with | p _ _ hp=>cases hp;rfl
theorem k_.uJ {b:Bool}(r:k_ G h (.bool b) V):V=.bool b:=by
 cases r with | p _ _ hp=>cases hp;rfl
theorem k_.xO {s:List UInt8}(r:k_ G h (.str s) V):V=.string ⟨s.toArray⟩:=by
 cases r with | p _ _ hp=>cases hp;rfl
theorem k_.uB {rows:List (List kN)}{t:Tok}(r:k_ G h (.slice rows t) V):oL G.H (.slice rows .no) V:=by
 cases r with
 | p _ _ hp =>
  cases hp with
  | slice0 a cap=>exact .slice0 a cap
  | slice rows b off cap sz V hr hc hH hk hV=>exact .slice rows b off cap sz V hr hc hH hk hV
 | nil=>exact .slice0 none 0
 | own rows id n sz V hp hf hn hr hc=>exact hp
 | ownv id V hp hb=>exact hp
theorem k_.s9 {id tot off len sz:Nat}(r:k_ G h (.vslice id tot off len sz) V):∃b cap,V=.slice (some ⟨b,off,none⟩) len cap∧uA h id∧tot≤wY (G.cur id)∧len≤cap ∧
   (tot=wY (G.cur id)→∃l cap0,G.cur id=.slice (some ⟨b,0,none⟩) tot cap0∧off=l*sz∧l+len≤tot∧cap=cap0-l):=by
 cases r with
 | p _ _ hp=>cases hp
 | vslice _ _ _ _ _ b cap hl ht hc hv=>exact⟨b,cap,rfl,hl,ht,hc,hv⟩
theorem k_.BG {id tot off:Nat}(r:k_ G h (.vptr id tot off) V):∃b,V=.pointer (some ⟨b,off,none⟩)∧uA h id∧tot≤wY (G.cur id)∧(tot=wY (G.cur id)→∃cap0,G.cur id=.slice (some ⟨b,0,none⟩) tot cap0):=by
 cases r with
 | p _ _ hp=>cases hp
 | vptr _ _ _ b hl ht hv=>exact⟨b,rfl,hl,ht,hv⟩
theorem k_.vB {cs:List kN}(r:k_ G h (.agg cs) V):∃C:Array Value,V=.agg C∧cs.length=C.size∧∀(i:Nat) (v:kN),cs[i]?=some v→k_ G h v (C.getD i undef):=by
 cases r with
 | p _ _ hp=>cases hp with | agg cs C hl hh=>exact⟨C,rfl,hl,fun i v hv=>.p _ _ (hh i v hv)⟩
 | agg cs C hl hh=>exact⟨C,rfl,hl,hh⟩
theorem k_.Ad {cs:List kN}(r:k_ G h (.tuple cs) V):∃C:Array Value,V=.tuple C∧cs.length=C.size∧∀(i:Nat) (v:kN),cs[i]?=some v→k_ G h v (C.getD i undef):=by
 cases r with
 | p _ _ hp=>cases hp with | tuple cs C hl hh=>exact⟨C,rfl,hl,fun i v hv=>.p _ _ (hh i v hv)⟩
 | tuple cs C hl hh=>exact⟨C,rfl,hl,hh⟩
theorem k_.Tg (r:k_ G h (.tuple []) V):V=undef:=by
 obtain⟨C,rfl,hl,_⟩:=r.Ad
 have:C=#[]:=Array.eq_empty_of_size_eq_zero hl.symm
 subst this;rfl
theorem k_.undef:k_ G h (.tuple []) Go.undef:=.p _ _ (.tuple [] #[] rfl (by simp))
theorem k_.yN {id off:Nat}(r:k_ G h (.ptr id off) V):V=.pointer (some ⟨G.mO id,off,none⟩)∧live h id:=by
 cases r with
 | p _ _ hp=>cases hp
 | ptr id off hl=>exact⟨rfl,hl⟩
theorem k_.Bt {cs:List kN}(r:k_ G h (.pptr cs) V):oL G.H (.pptr cs) V:=by
 cases r with | p _ _ hp=>exact hp
theorem k_.vZ {id off len sz:Nat}(r:k_ G h (.mslice id off len sz) V) :
  ∃a cap,V=.slice a len cap∧len≤cap∧(0<len→a=some ⟨G.mO id,off,none⟩∧live h id):=by
 cases r with
 | p _ _ hp=>cases hp
 | mslice id off len sz cap hl hc=>exact⟨_,cap,rfl,hc,fun _=>⟨rfl,hl⟩⟩
 | mslice0 id off sz cap a=>exact⟨a,cap,rfl,Nat.zero_le _,fun hh=>absurd hh (by omega)⟩
theorem k_.Dr {f:Nat}{first cap:List kN}(r:k_ G h (.func f first cap) V) :
  ∃F C:Array Value,V=.func (.func f) F C∧first.length=F.size∧cap.length=C.size ∧
   (∀(i:Nat) (v:kN),first[i]?=some v→k_ G h v (F.getD i Go.undef))∧(∀(i:Nat) (v:kN),cap[i]?=some v→k_ G h v (C.getD i Go.undef)):=by
 cases r with
 | p _ _ hp=>cases hp with | func f=>exact⟨#[],#[],rfl,rfl,rfl,by simp,by simp⟩
 | func f first cap F C hlf hlc hf hc=>exact⟨F,C,rfl,hlf,hlc,hf,hc⟩
theorem k_.zZ {t:Nat}{v:kN}(r:k_ G h (.iface t v) V):∃W,V=.iface t W∧k_ G h v W:=by
 cases r with
 | p _ _ hp=>cases hp with | iface t v V hh=>exact⟨_,rfl,.p _ _ hh⟩
 | iface t v V hh=>exact⟨_,rfl,hh⟩
theorem k_.BU {v:kN}(r:k_ G h v V) (hk:v.lS=true):V.oneCell'=true∧V.cells=#[V]:=by
 cases r with
 | p _ _ hp=>cases hp <;> simp_all [kN.lS,Value.oneCell',Value.cells]
 | own _ _ _ _ _ hp=>cases hp <;> simp [Value.oneCell',Value.cells]
 | ownv _ _ hp=>cases hp <;> simp [Value.oneCell',Value.cells]
 | _=>simp_all [kN.lS,Value.oneCell',Value.cells]
theorem oL.BU {H:Nat→Nat→Option Value}{v:kN}(r:oL H v V) (hk:v.lS=true):V.oneCell'=true∧V.cells=#[V]:=by
 cases r <;> simp_all [kN.lS,Value.oneCell',Value.cells]
end inv
theorem Cp (G:Gh) (h:kO) (v:Value):k_ G h (Bp v) v:=by
 unfold Bp
 split
 ·exact .p _ _ (.bool _)
 ·exact .p _ _ (.int _ _)
 ·rename_i s
  have:(⟨s.data.toList.toArray⟩:ByteArray)=s:=by cases s;simp
  have r:=k_.p (G:=G) (h:=h) _ _ (oL.str (H:=G.H) s.data.toList)
  rw [this] at r;exact r
 ·exact .p _ _ .nilptr
 ·exact .nil
 ·exact .p _ _ .nilmap
 ·exact .p _ _ .nilfunc
 ·exact .p _ _ .niliface
 ·exact .p _ _ (.junk _)
theorem vL (G:Gh) (h:kO) (v:Value):k_ G h (ofConst v) v:=by
 unfold ofConst
 split
 ·rename_i cs
  refine .agg _ _ (by simp) fun i u hu=>?_
  simp only [ah3,ad2,ah1] at hu
  obtain⟨x,hx,rfl⟩:=hu
  have:cs.getD i undef=x:=by rw [ad1,hx];rfl
  rw [this]
  exact Cp G h x
 ·rename_i cs
  split
  ·rename_i hn
   have:cs=#[]:=by cases cs;simp_all
   subst this
   exact .p _ _ (.tuple [] #[] rfl (by simp))
  ·exact .p _ _ (.junk _)
 ·exact Cp G h v
def Oj (A:xS) (H:Nat→Nat→Option Value):Prop:=∀g cs,A.glob g=some cs→oL H (.pptr cs) (.pointer (some ⟨g,0,none⟩))
theorem Oj.mono {A:xS}{H H':Nat→Nat→Option Value}(hh:∀b k v,H b k=some v→H' b k=some v) (g:Oj A H):Oj A H':=fun i cs hc=>(g i cs hc).mono hh
structure o_ (A:xS) (G:Gh) (h:kO) (w:World):Prop where
 cells:Oj A G.H
 size:∀g n,A.gsz g=some n→(∀id,owner G h id≠some g)∧∃C e fr,w.heap[g]?=some (.cells C e fr)∧C.size=n
theorem o_.mono {A:xS}{G G':Gh}{h h':kO}{w w':World}(gl:o_ A G h w) (x:Ext G h w G' h' w'):o_ A G' h' w' :=
 ⟨gl.cells.mono x.hmono,fun g n hg=>by
  obtain⟨h1,C,e,fr,h2,h3⟩:=gl.size g n hg
  have hlt:g<w.heap.size:=(Array.getElem?_eq_some_iff.1 h2).1
  exact⟨fun id ho=>h1 id (x.own id g ho hlt),C,e,fr,by rw [(x.frame g hlt h1).1];exact h2,h3⟩⟩
theorem o_.sub {A:xS}{G G':Gh}{h h':kO}{w:World}(gl:o_ A G h w) (hH:G'.H=G.H) (ho:∀id b,owner G' h' id=some b→∃id',owner G h id'=some b):o_ A G' h' w :=
 ⟨by rw [hH];exact gl.cells,fun g n hg=>by
  obtain⟨h1,h2⟩:=gl.size g n hg
  exact⟨fun id hi=>by obtain⟨id',h3⟩:=ho id g hi;exact h1 id' h3,h2⟩⟩
structure nC (J:Act→Prop) (G:Gh) (h:kO) (ρ:List kN) (a:Act):Prop where
 len:ρ.length=a.tmps.size
 rel:∀(i:Nat) (v:kN),ρ[i]?=some v→k_ G h v (a.tmps.getD i undef)
 df:J a
theorem nC.mono {J:Act→Prop}{G G':Gh}{h h':kO}{ρ:List kN}{a:Act}(s:nC J G h ρ a) (m:Cb G h G' h'):nC J G' h' ρ a :=
 ⟨s.len,fun i v hv=>(s.rel i v hv).mono m,s.df⟩
theorem nC.get {J:Act→Prop}{G:Gh}{h:kO}{ρ:List kN}{a:Act}(s:nC J G h ρ a) (t:Nat):k_ G h (ρ.getD t .junk) (a.tmps.getD t undef):=by
 rw [ad9]
 cases hv:ρ[t]? with
 | none=>exact .p _ _ (.junk _)
 | some v=>exact s.rel t v hv
theorem nC.eval {J:Act→Prop}{A:xS}{G:Gh}{h:kO}{ρ:List kN}{a:Act}(s:nC J G h ρ a) (gl:Oj A G.H) (x:Operand):k_ G h (qF A ρ x) (a.eval x):=by
 cases x with
 | tmp t=>exact s.get t
 | const v=>exact vL G h v
 | global g =>
  simp only [qF]
  cases hg:A.glob g with
  | none=>exact .p _ _ (.junk _)
  | some cs=>exact .p _ _ (gl g cs hg)
 | func f=>exact .p _ _ (.func f)
theorem nC.put {J:Act→Prop}{G:Gh}{h:kO}{ρ:List kN}{a:Act}(s:nC J G h ρ a) (dst:Option Tmp) {v:kN}{V:Value}(r:k_ G h v V) (hj:J (a.put dst V)):nC J G h (pD ρ dst v) (a.put dst V):=by
 cases dst with
 | none=>exact s
 | some d =>
  refine⟨by simp [pD,Act.put,s.len],fun i u hu=>?_,hj⟩
  simp only [pD,List.getElem?_set] at hu
  simp only [Act.put,ad1,Array.getElem?_setIfInBounds]
  by_cases hdi:d=i
  ·subst hdi
   have hlt:d<ρ.length:=by
    by_cases hlt:d<ρ.length
    ·exact hlt
    ·simp [hlt] at hu
   simp only [hlt,if_true] at hu
   cases hu
   rw [s.len] at hlt
   simpa [hlt] using r
  ·simp only [hdi,if_false] at hu ⊢
   simpa [ad1] using s.rel i u hu
theorem BO {G:Gh}{h:kO}{v:kN}{V:Value}(r:k_ G h v V) (hk:v.cells.all kN.lS=true) :
  v.cells.length=V.cells.size∧∀(i:Nat) (u:kN),v.cells[i]?=some u→u.lS=true∧k_ G h u (V.cells.getD i undef):=by
 by_cases ha:∃cs,v=.agg cs
 ·obtain⟨cs,rfl⟩:=ha
  obtain⟨C,rfl,hl,hr⟩:=r.vB
  simp only [kN.cells,Value.cells] at *
  exact⟨hl,fun i u hu=>⟨by simpa using al0.1 hk u (ae0 hu),hr i u hu⟩⟩
 ·have hc:v.cells=[v]:=by cases v <;> simp_all [kN.cells]
  rw [hc] at hk ⊢
  have hk':v.lS=true:=by simpa using hk
  obtain⟨_,h2⟩:=r.BU hk'
  rw [h2]
  refine⟨rfl,fun i u hu=>?_⟩
  cases i with
  | zero=>simp at hu;subst hu;exact⟨hk',by simpa using r⟩
  | succ i=>simp at hu
end
section
open Go Go.RowKit
section
variable {P:Program}{G:Gh}{h:kO}{w:World}{x y v:kN}{X Y:Value}
theorem xJ (op:BinOp) (t:TypeId) (xo yo:Operand) (X Y:Value) (hx:(∀cs,X≠.agg cs)∧X≠.nilIface):(eqGuard op t xo yo X Y).run P w=.ok () w:=by
 obtain⟨h1,h2⟩:=hx
 cases op <;> cases X <;> first
  | (exact absurd rfl (h1 _);done)
  | (exact absurd rfl h2;done)
  | (unfold eqGuard;simp [Sem.run_pure];done)
  | (unfold eqGuard;simp [Sem.run_pure];split <;> simp_all [Sem.run_pure];done)
theorem mW {t:TypeId}{n:Nat}(hn:mX P t=some n):(Go.sizeOf t).run P w=.ok n w:=by
 unfold mX at hn
 cases hu:P.info? t with
 | none=>simp [hu] at hn
 | some ti=>simp [hu] at hn;simp [Go.sizeOf,Go.typeInfo,hu,hn]
theorem CK {t:TypeId}{g:Bool}(hg:qG P t=some g):(isAgg t).run P w=.ok g w:=by
 unfold qG at hg
 cases hu:P.underlying t with
 | none=>simp [hu] at hg
 | some d=>cases d <;> simp_all [isAgg,run_underlying,Sem.run_pure]
theorem run_equalIn_bool {t:TypeId}(ht:P.underlying t=some .bool) (d:Nat) (a b:Bool):(Op.equalIn (d+1) t (.bool a) (.bool b)).run P w=.ok (a == b) w:=by
 simp only [Op.equalIn,Sem.run_bind,run_underlying ht,Result.andThen_ok,Sem.run_pure]
theorem Hp {op:BinOp}(t:TypeId) (xo yo:Operand) (hb:lF op x y=some v) (hx:k_ G h x X) (hy:k_ G h y Y) :
  ∃V,(do eqGuard op t xo yo X Y;binOp op t X Y:Sem Value).run P w=.ok V w∧k_ G h v V:=by
 unfold lF at hb
 split at hb
 ·rename_i k a k' b
  have:=hx.oN;subst this
  have:=hy.oN;subst this
  have hg:=xJ (P:=P) (w:=w) op t xo yo (.int k a) (.int k' b) (by simp)
  simp only [Sem.run_bind,hg,Result.andThen_ok]
  cases op <;> (try simp only at hb) <;> (try split at hb) <;> (try simp only [aa9,reduceCtorEq] at hb)
  all_goals (try subst hb)
  all_goals (try (rename_i hk;simp only [ne_eq,Decidable.not_not] at hk;try subst hk))
  all_goals (try (split at hb))
  all_goals (try (cases hb;done))
  all_goals (try (simp only [aa9] at hb;subst hb))
  all_goals refine⟨_,?_,.p _ _ (by first | exact .int _ _ | exact .bool _)⟩
  all_goals (try simp_all [binOp,Op.intArith,Op.intCmp,Op.intDiv,Op.intBits,Op.shift,Sem.run_pure])
  all_goals (intro hlt;omega)
 ·rename_i a b
  have:=hx.xO;subst this
  have:=hy.xO;subst this
  have hg:=xJ (P:=P) (w:=w) op t xo yo (.string ⟨a.toArray⟩) (.string ⟨b.toArray⟩) (by simp)
  simp only [Sem.run_bind,hg,Result.andThen_ok]
  cases op <;> simp only [reduceCtorEq] at hb <;> (try split at hb) <;> simp only [aa9,reduceCtorEq] at hb
  all_goals subst hb
  ·rename_i hl
   refine⟨.string (⟨a.toArray⟩++⟨b.toArray⟩),?_,?_⟩
   ·show(Op.stringOp .add _ _).run P w=_
    refine run_string_add_sum _ _ _ ?_
    show a.toArray.size+b.toArray.size≤_
    simp only [List.size_toArray];omega
   ·have:(⟨a.toArray⟩:ByteArray)++⟨b.toArray⟩=⟨(a++b).toArray⟩:=by
     apply ByteArray.ext;simp
    rw [this];exact .p _ _ (.str _)
  all_goals exact⟨_,by simp [binOp,Op.stringOp,Sem.run_pure],.p _ _ (.bool _)⟩
 ·cases hb
theorem On {op:BinOp}{t:TypeId}(ht:P.underlying t=some .bool) (xo yo:Operand) (hb:xF op x y=some v) (hx:k_ G h x X) (hy:k_ G h y Y) :
  ∃V,(do eqGuard op t xo yo X Y;binOp op t X Y:Sem Value).run P w=.ok V w∧k_ G h v V:=by
 unfold xF at hb
 split at hb
 all_goals first | (cases hb;done) | skip
 all_goals
  rename_i a b
  have:=hx.uJ;subst this
  have:=hy.uJ;subst this
  simp only [aa9] at hb;subst hb
  refine⟨_,?_,.p _ _ (.bool _)⟩
  have he:=run_equalIn_bool (P:=P) (w:=w) ht 9999 a b
  simp only [Sem.run_bind,xJ (P:=P) (w:=w) _ t xo yo (.bool a) (.bool b) (by simp),Result.andThen_ok]
  simp only [binOp,Sem.run_bind,Op.equal,Op.maxDepth,he,Result.andThen_ok,Sem.run_pure]
theorem Gq {t e:TypeId}(ht:P.underlying t=some (.pointer e)) (d:Nat) (a:Option Addr):(Op.equalIn (d+1) t (.pointer a) (.pointer none)).run P w=.ok a.isNone w:=by
 cases a <;> simp only [Op.equalIn,Sem.run_bind,run_underlying ht,Result.andThen_ok,Sem.run_pure] <;> rfl
theorem Oo {op:BinOp}{t e:TypeId}(ht:P.underlying t=some (.pointer e)) (xo yo:Operand) (hb:Kb op x y=some v) (hx:k_ G h x X) (hy:k_ G h y Y) :
  ∃V,(do eqGuard op t xo yo X Y;binOp op t X Y:Sem Value).run P w=.ok V w∧k_ G h v V:=by
 have key:∀b,HC x=some b→∃a,X=.pointer a∧a.isNone=b:=by
  intro b hb
  cases hx with
  | p v V hp =>
   cases hp <;> simp only [HC,aa9,reduceCtorEq] at hb <;> subst hb <;> exact⟨_,rfl,rfl⟩
  | ptr id off hl=>simp only [HC,aa9] at hb;subst hb;exact⟨_,rfl,rfl⟩
  | vptr id tot off b hl _ hv=>simp only [HC,aa9] at hb;subst hb;exact⟨_,rfl,rfl⟩
  | _=>simp [HC] at hb
 unfold Kb at hb
 split at hb
 all_goals first | (cases hb;done) | skip
 all_goals
  have hY:Y=.pointer none:=by
   cases hy with
   | p v V hp=>cases hp;rfl
  subst hY
  obtain⟨b,h1,h2⟩:=ad2.1 hb
  obtain⟨a,rfl,ha⟩:=key b h1
  subst ha;subst h2
  refine⟨_,?_,.p _ _ (.bool _)⟩
  have he:=Gq (P:=P) (w:=w) ht 9999 a
  simp only [Sem.run_bind,xJ (P:=P) (w:=w) _ t xo yo (.pointer a) (.pointer none) (by simp),Result.andThen_ok]
  simp only [binOp,Sem.run_bind,Op.equal,Op.maxDepth,he,Result.andThen_ok,Sem.run_pure]
theorem Ur {op:UnOp}(hb:vN op x=some v) (hx:k_ G h x X):∃V,(Op.unary op X).run P w=.ok V w∧k_ G h v V:=by
 unfold vN at hb
 split at hb
 all_goals first | (cases hb;done) | skip
 all_goals simp only [aa9] at hb;subst hb
 ·have:=hx.oN;subst this
  exact⟨_,by simp [Op.unary,Op.intArith,Sem.run_pure],.p _ _ (.int _ _)⟩
 ·have:=hx.oN;subst this
  exact⟨_,by simp [Op.unary,Op.intBits,Sem.run_pure],.p _ _ (.int _ _)⟩
 ·have:=hx.uJ;subst this
  exact⟨_,by simp [Op.unary,Sem.run_pure],.p _ _ (.bool _)⟩
theorem Hs {s d:TypeId}{k k0:IntKind}(hs:P.underlying s=some (.int k0)) (hd:P.underlying d=some (.int k)) (hb:mC k x=some v) (hx:k_ G h x X) :
  ∃V,(convert s d X).run P w=.ok V w∧k_ G h v V:=by
 unfold mC at hb
 split at hb <;> simp only [aa9,reduceCtorEq] at hb
 subst hb
 have:=hx.oN;subst this
 exact⟨_,by simp [convert,run_underlying hs,run_underlying hd,Conv.intToInt,Sem.run_pure],.p _ _ (.int _ _)⟩
theorem OA {c a b:kN}{C A B:Value}(hb:lH c a b=some v) (hc:k_ G h c C) (ha:k_ G h a A) (hbb:k_ G h b B) :
  ∃V,((do pure (.value (if ←asBool C then A else B))):Sem Next).run P w=.ok (.value V) w∧k_ G h v V:=by
 unfold lH at hb
 split at hb <;> simp only [aa9,reduceCtorEq] at hb
 rename_i g
 subst hb
 have:=hc.uJ;subst this
 refine⟨bif g then A else B,?_,by cases g <;> assumption⟩
 cases g <;> simp [asBool,Sem.run_pure]
theorem Hu {i:Nat}(hb:lC i x=some v) (hx:k_ G h x X):∃V,(Instr.extract X i).run P w=.ok V w∧k_ G h v V:=by
 unfold lC at hb
 split at hb
 ·obtain⟨C,rfl,hl,hr⟩:=hx.Ad
  have hlt:i<C.size:=by rw [←hl];exact(ad0.1 hb).1
  refine⟨C.getD i undef,?_,hr i v hb⟩
  simp [Instr.extract,Array.getElem?_eq_getElem hlt,Sem.run_pure]
 ·cases hb
theorem yK {g:Bool}{n off:Nat}{cs:List kN}{C:Array Value}{t:TypeId}(hg:qG P t=some g) (hn:mX P t=some n)
  (hb:apart g n cs off=some v) (hl:cs.length=C.size) (hr:∀(i:Nat) (u:kN),cs[i]?=some u→k_ G h u (C.getD i undef)) :
  ∃V,(part t C off).run P w=.ok V w∧k_ G h v V:=by
 have hagg:=CK (w:=w) hg
 have hsz:=mW (w:=w) hn
 unfold apart at hb
 cases g with
 | true =>
  simp only [cond_true] at hb
  split at hb <;> simp only [aa9,reduceCtorEq] at hb
  rename_i hle
  subst hb
  refine⟨.agg (C.extract off (off+n)),?_,.agg _ _ ?_ ?_⟩
  ·simp [part,hagg,hsz]
  ·simp;omega
  ·intro i u hu
   have hi:i<n:=by
    have:=(ad0.1 hu).1
    simp at this;omega
   rw [ah8,if_pos hi,ah9] at hu
   have:=hr _ _ hu
   have hsz2:off+i<C.size:=by omega
   rw [ad1] at this ⊢
   rw [Array.getElem?_extract,if_pos (by omega)]
   exact this
 | false =>
  simp only [cond_false] at hb
  have hlt:off<C.size:=by rw [←hl];exact(ad0.1 hb).1
  exact⟨C.getD off undef,by simp [part,hagg,Array.getElem?_eq_getElem hlt,Sem.run_pure],hr off v hb⟩
end
end
section
open Go Go.RowKit
section
variable {P:Program}{G:Gh}{h:kO}{w:World}{x y v:kN}{X Y:Value}
theorem KY {t ft:TypeId}{fs:Array Field}{f:Nat}{fd:Field}{g:Bool}{n:Nat}(ht:P.underlying t=some (.struct fs)) (hf:fs[f]?=some fd)
  (hg:qG P fd.type=some g) (hn:mX P fd.type=some n) (hb:Hv g n fd.offset x=some v) (hx:k_ G h x X) :
  ∃V,(Instr.field t X f).run P w=.ok V w∧k_ G h v V:=by
 unfold Hv at hb
 split at hb
 ·obtain⟨C,rfl,hl,hr⟩:=hx.vB
  obtain⟨V,h1,h2⟩:=yK (w:=w) hg hn hb hl hr
  exact⟨V,by simp [Instr.field,run_underlying ht,hf,asAgg,h1,Sem.run_pure],h2⟩
 ·cases hb
theorem F8 {t:TypeId}(ht:P.underlying t=some .string) (hb:mS x y=some v) (hx:k_ G h x X) (hy:k_ G h y Y) :
  ∃V,(Instr.index t X Y).run P w=.ok V w∧k_ G h v V:=by
 unfold mS at hb
 split at hb
 ·rename_i s k n
  split at hb
  ·rename_i h0
   have:=hx.xO;subst this
   have:=hy.oN;subst this
   cases hs:s[n.toNat]? with
   | none=>simp [hs] at hb
   | some b =>
    simp [hs] at hb;subst hb
    refine⟨_,?_,.p _ _ (.int _ _)⟩
    have hget:(⟨s.toArray⟩:ByteArray)[n.toNat]?=some b:=by
     have hlt:n.toNat<s.length:=(ad0.1 hs).1
     have hb2:s[n.toNat]=b:=(ad0.1 hs).2
     have hsz:n.toNat<(⟨s.toArray⟩:ByteArray).size:=by show n.toNat<s.toArray.size;simpa using hlt
     rw [getElem?_pos (c:=(⟨s.toArray⟩:ByteArray)) (i:=n.toNat) hsz]
     rw [←hb2];rfl
    simp [Instr.index,asIntOf,run_underlying ht,h0,hget,Sem.run_pure]
  ·cases hb
 ·cases hb
theorem F7 {t e:TypeId}{len sz:Nat}{g:Bool}(ht:P.underlying t=some (.array len e)) (hg:qG P e=some g) (hn:mX P e=some sz)
  (hb:oI g len sz x y=some v) (hx:k_ G h x X) (hy:k_ G h y Y):∃V,(Instr.index t X Y).run P w=.ok V w∧k_ G h v V:=by
 unfold oI at hb
 split at hb
 ·rename_i cs k n
  split at hb
  ·rename_i h0
   obtain⟨C,rfl,hl,hr⟩:=hx.vB
   have:=hy.oN;subst this
   obtain⟨V,h1,h2⟩:=yK (w:=w) hg hn hb hl hr
   exact⟨V,by simp [Instr.index,asIntOf,run_underlying ht,h0,mW hn,h1,Sem.run_pure],h2⟩
  ·cases hb
 ·cases hb
theorem FH {b:Option kN}{B:Option Value}{dflt y0 n:Nat}{code:BoundsCode}(hb:pU b dflt=some n) (hle:n≤y0)
  (hr:∀u,b=some u→∃U,B=some U∧k_ G h u U) (hnone:b=none→B=none) :
  (match B with | some U=>Instr.sliceBound U y0 code | none=>(pure dflt:Sem Nat)).run P w=.ok n w:=by
 unfold pU at hb
 cases b with
 | none=>rw [hnone rfl];simp at hb;subst hb;simp [Sem.run_pure]
 | some u =>
  obtain⟨U,rfl,hU⟩:=hr u rfl
  cases u <;> simp at hb
  rename_i k m
  obtain⟨h0,rfl⟩:=hb
  have:=hU.oN;subst this
  have:(0:Int)≤m∧m≤(y0:Int):=⟨h0,by omega⟩
  simp [Instr.sliceBound,asIntOf,this,Sem.run_pure]
theorem tC {isS:Bool}{lo hi:Option kN}{LO HI:Option Value}{len cap l u:Nat}(hlo:pU lo 0=some l) (hhi:pU hi len=some u) (hlu:l≤u) (hlen:len≤cap) (huc:u≤cap)
  (hrl:∀a,lo=some a→∃U,LO=some U∧k_ G h a U) (hnl:lo=none→LO=none) (hrh:∀a,hi=some a→∃U,HI=some U∧k_ G h a U) (hnh:hi=none→HI=none) :
  (Instr.sliceBounds isS len cap LO HI none).run P w=.ok (l,u,cap) w:=by
 have h1:=FH (P:=P) (w:=w) (code:=if isS then .sliceAcap else .sliceAlen) hhi huc hrh hnh
 have h2:=FH (P:=P) (w:=w) (code:=.sliceB) hlo hlu hrl hnl
 unfold Instr.sliceBounds
 cases HI with
 | none =>
  simp only [Sem.run_pure,Result.ok.injEq,and_true] at h1;subst h1
  cases LO with
  | none=>simp only [Sem.run_pure,Result.ok.injEq,and_true] at h2;subst h2;simp [Sem.run_pure]
  | some L=>simp only [] at h2;simp [h2,Sem.run_pure]
 | some Hh =>
  simp only [] at h1
  cases LO with
  | none=>simp only [Sem.run_pure,Result.ok.injEq,and_true] at h2;subst h2;simp [h1,Sem.run_pure]
  | some L=>simp only [] at h2;simp [h1,h2,Sem.run_pure]
theorem WM {f:Operand→kN}{F:Operand→Value}(hf:∀o,k_ G h (f o) (F o)) (o:Option Operand) :
  (∀a,o.map f=some a→∃U,o.map F=some U∧k_ G h a U)∧(o.map f=none→o.map F=none):=by
 cases o with
 | none=>simp
 | some o=>exact⟨fun a ha=>⟨F o,rfl,by simp at ha;subst ha;exact hf o⟩,by simp⟩
section slices
variable {lo hi:Option kN}{LO HI:Option Value}
 (hrl:∀a,lo=some a→∃U,LO=some U∧k_ G h a U) (hnl:lo=none→LO=none) (hrh:∀a,hi=some a→∃U,HI=some U∧k_ G h a U) (hnh:hi=none→HI=none)
include hrl hnl hrh hnh
theorem F_ {t:TypeId}(ht:P.underlying t=some .string) (hb:nT x lo hi=some v) (hx:k_ G h x X) :
  ∃V,(Instr.sliceAt t X LO HI none).run P w=.ok V w∧k_ G h v V:=by
 unfold nT at hb
 split at hb
 ·rename_i s
  have:=hx.xO;subst this
  split at hb
  ·rename_i l u hl hu
   split at hb <;> simp only [aa9,reduceCtorEq] at hb
   rename_i hlu
   subst hb
   have hsz:(⟨s.toArray⟩:ByteArray).size=s.length:=by show s.toArray.size=_;simp
   have hr:=tC (P:=P) (w:=w) (isS:=false) (len:=s.length) (cap:=s.length) hl hu hlu.1 (al1 _) hlu.2 hrl hnl hrh hnh
   refine⟨.string ((⟨s.toArray⟩:ByteArray).extract l u),?_,?_⟩
   ·simp [Instr.sliceAt,run_underlying ht,Instr.slice,hsz,hr,Sem.run_pure]
   ·have:(⟨s.toArray⟩:ByteArray).extract l u=⟨((s.drop l).take (u-l)).toArray⟩:=by
     apply ByteArray.ext
     simp [ByteArray.data_extract]
    rw [this];exact .p _ _ (.str _)
  ·cases hb
 ·cases hb
theorem F9 {t e:TypeId}{len sz:Nat}(ht:P.underlying t=some (.array len e)) (hn:mX P e=some sz) (hb:zR len sz x lo hi=some v) (hx:k_ G h x X) :
  ∃V,(Instr.sliceAt t X LO HI none).run P w=.ok V w∧k_ G h v V:=by
 have hadd:∀b off k,Addr.add ⟨b,off,none⟩ k=⟨b,off+k,none⟩:=by
  intro b off k;unfold Addr.add;split <;> simp_all
 unfold zR at hb
 split at hb
 ·rename_i id off
  split at hb <;> simp only [aa9,reduceCtorEq] at hb
  rename_i hlen
  subst hb
  obtain⟨rfl,hl⟩:=hx.yN
  have h1:=hnl rfl
  have h2:=hnh rfl
  subst h1;subst h2
  refine⟨.slice (some ⟨G.mO id,off,none⟩) len len,?_,.mslice _ _ _ _ _ hl (al1 _)⟩
  simp [Instr.sliceAt,run_underlying ht,Instr.sureAddr,Instr.sliceBounds,mW hn,Sem.run_pure,hadd]
 ·cases hb
theorem HD {t e:TypeId}{sz:Nat}(ht:P.underlying t=some (.slice e)) (hn:mX P e=some sz) (hb:n8 sz x lo hi=some v) (hx:k_ G h x X) :
  ∃V,(Instr.sliceAt t X LO HI none).run P w=.ok V w∧k_ G h v V:=by
 unfold n8 at hb
 split at hb
 ·rename_i rows tok
  have hp:=hx.uB
  split at hb
  ·rename_i l u hl hu
   split at hb <;> simp only [aa9,reduceCtorEq] at hb
   rename_i hlu
   obtain⟨hlu1,hlu2,hall⟩:=hlu
   subst hb
   cases hp with
   | slice0 a cap =>
    simp only [List.length_nil,Nat.le_zero_eq] at hlu2
    subst hlu2
    have hl0:l=0:=by omega
    subst hl0
    have hr:=tC (P:=P) (w:=w) (isS:=true) (len:=0) (cap:=cap) hl hu hlu1 (Nat.zero_le _) (Nat.zero_le _) hrl hnl hrh hnh
    refine⟨.slice (if cap=0 then a else a.map (·.add (0*sz))) 0 cap,?_,.p _ _ (by simp only [List.drop_nil,List.take_nil];exact .slice0 _ _)⟩
    simp [Instr.sliceAt,run_underlying ht,Instr.slice,mW hn,hr,Sem.run_pure]
   | slice rows b off cap sz' V hr0 hc hH hk hV =>
    have hr:=tC (P:=P) (w:=w) (isS:=true) (len:=rows.length) (cap:=cap) hl hu hlu1 hc (by omega) hrl hnl hrh hnh
    refine⟨.slice (if cap=l then some ⟨b,off,none⟩ else some (Addr.add ⟨b,off,none⟩ (l*sz))) (u-l) (cap-l),?_,?_⟩
    ·simp [Instr.sliceAt,run_underlying ht,Instr.slice,mW hn,hr,Sem.run_pure]
    ·have hlen:((rows.drop l).take (u-l)).length=u-l:=by simp;omega
     by_cases h0:u-l=0
     ·have:(rows.drop l).take (u-l)=[]:=by rw [h0];simp
      rw [this,h0];exact .p _ _ (.slice0 _ _)
     ·have hcl:¬cap=l:=by omega
      have hszz:sz'=sz:=by
       have hm:rows[l]?=some rows[l]:=ae1 (by omega)
       have h1:=hr0 rows[l] (ae0 hm)
       have h2:=al0.1 hall rows[l] (ae0 hm)
       simp at h2;omega
      subst hszz
      rw [if_neg hcl]
      have hadd:Addr.add ⟨b,off,none⟩ (l*sz')=⟨b,off+l*sz',none⟩:=by
       unfold Addr.add;split <;> simp_all
      rw [hadd]
      have hget:∀i (row:List kN),((rows.drop l).take (u-l))[i]?=some row→rows[l+i]?=some row:=by
       intro i row hi
       rw [ah8] at hi
       split at hi
       ·rwa [ah9] at hi
       ·cases hi
      have hmem:∀r∈(rows.drop l).take (u-l),r.length=sz':=fun r hrm=>hr0 r (List.mem_of_mem_drop (List.mem_of_mem_take hrm))
      generalize (rows.drop l).take (u-l)=R at hlen hget hmem
      rw [←hlen]
      refine .p _ _ (.slice R b (off+l*sz') (cap-l) sz' (fun k=>V (l*sz'+k)) hmem (by rw [hlen];omega) ?_ ?_ ?_)
      ·intro i j row v h1 h2
       have:=hH (l+i) j row v (hget i row h1) h2
       rw [show off+l*sz'+(i*sz'+j)=off+((l+i)*sz'+j) by rw [ar1];omega,this]
       congr 2;rw [ar1];omega
      ·intro i j row v h1 h2;exact hk (l+i) j row v (hget i row h1) h2
      ·intro i j row v h1 h2
       have:=hV (l+i) j row v (hget i row h1) h2
       rw [show l*sz'+(i*sz'+j)=(l+i)*sz'+j by rw [ar1];omega];exact this
  ·cases hb
 ·rename_i id off len sz'
  obtain⟨a,cap,rfl,hlc,ha⟩:=hx.vZ
  split at hb
  ·rename_i l u hl hu
   split at hb <;> simp only [aa9,reduceCtorEq] at hb
   rename_i hlu
   obtain⟨hlu1,hlu2,rfl⟩:=hlu
   subst hb
   have hr:=tC (P:=P) (w:=w) (isS:=true) (len:=len) (cap:=cap) hl hu hlu1 hlc (by omega) hrl hnl hrh hnh
   refine⟨.slice (if cap=l then a else a.map (·.add (l*sz'))) (u-l) (cap-l),?_,?_⟩
   ·simp [Instr.sliceAt,run_underlying ht,Instr.slice,mW hn,hr,Sem.run_pure]
   ·by_cases h0:u-l=0
    ·rw [h0];exact .mslice0 _ _ _ _ _
    ·obtain⟨rfl,hlv⟩:=ha (by omega)
     rw [if_neg (by omega)]
     have hadd:Addr.add ⟨G.mO id,off,none⟩ (l*sz')=⟨G.mO id,off+l*sz',none⟩:=by
      unfold Addr.add;split <;> simp_all
     simp only [Option.map_some,hadd]
     exact .mslice id _ _ sz' _ hlv (by omega)
  ·cases hb
 ·rename_i id tot off len sz'
  obtain⟨b,cap,rfl,hnf,htot,hlc,hv⟩:=hx.s9
  split at hb
  ·rename_i l u hl hu
   split at hb
   case isFalse=>cases hb
   rename_i hlu
   obtain⟨hlu1,hlu2,rfl⟩:=hlu
   have hr:=tC (P:=P) (w:=w) (isS:=true) (len:=len) (cap:=cap) hl hu hlu1 hlc (by omega) hrl hnl hrh hnh
   have hrun:(Instr.sliceAt t (.slice (some ⟨b,off,none⟩) len cap) LO HI none).run P w=.ok (.slice (if cap=l then some ⟨b,off,none⟩ else(some (Addr.mk b off none)).map (·.add (l*sz'))) (u-l) (cap-l)) w:=by
    simp [Instr.sliceAt,run_underlying ht,Instr.slice,mW hn,hr,Sem.run_pure]
   have hadd:Addr.add ⟨b,off,none⟩ (l*sz')=⟨b,off+l*sz',none⟩:=by
    unfold Addr.add;split <;> simp_all
   split at hb <;> simp only [aa9] at hb <;> subst hb
   ·rename_i hor
    refine⟨_,hrun,?_⟩
    have haddr:(if cap=l then some (Addr.mk b off none) else(some (Addr.mk b off none)).map (·.add (l*sz')))=some ⟨b,off+l*sz',none⟩:=by
     split
     ·have:l=0:=by omega
      subst this;simp
     ·simp only [Option.map_some,hadd]
    rw [haddr]
    refine .vslice id tot _ _ sz' b _ hnf htot (by omega) fun e=>?_
    obtain⟨l0,cap0,h1,h2,h3,h4⟩:=hv e
    exact⟨l0+l,cap0,h1,by rw [h2,ar1],by omega,by omega⟩
   ·rename_i hor
    have h0:u-l=0:=by omega
    refine⟨_,hrun,?_⟩
    rw [h0];exact .p _ _ (.slice0 _ _)
  ·cases hb
 ·cases hb
end slices
theorem JA {t:TypeId}{ty:TypeId}(ht:P.underlying t=some .string) (hb:nG x=some v) (hx:k_ G h x X) :
  ∃V,(Builtin.len_ #[t] ty #[X]).run P w=.ok V w∧k_ G h v V:=by
 unfold nG at hb
 split at hb <;> simp only [aa9,reduceCtorEq] at hb
 subst hb
 rename_i s
 have:=hx.xO;subst this
 refine⟨.int .i64 s.length,?_,.p _ _ (.int _ _)⟩
 have hsz:(⟨s.toArray⟩:ByteArray).size=s.length:=by show s.toArray.size=_;simp
 simp [Builtin.len_,run_underlying ht,goInt,hsz,Sem.run_pure]
theorem K0 {t:TypeId}{ty e:TypeId}(ht:P.underlying t=some (.slice e)) (hb:s5 x=some v) (hx:k_ G h x X) :
  ∃V,(Builtin.len_ #[t] ty #[X]).run P w=.ok V w∧k_ G h v V:=by
 unfold s5 at hb
 split at hb <;> simp only [aa9,reduceCtorEq] at hb <;> subst hb
 ·rename_i rows tok
  have hp:=hx.uB
  refine⟨.int .i64 rows.length,?_,.p _ _ (.int _ _)⟩
  cases hp <;> simp [Builtin.len_,run_underlying ht,goInt,Sem.run_pure]
 ·rename_i id off len sz
  obtain⟨a,cap,rfl,_⟩:=hx.vZ
  exact⟨.int .i64 len,by simp [Builtin.len_,run_underlying ht,goInt,Sem.run_pure],.p _ _ (.int _ _)⟩
 ·rename_i id tot off len sz
  obtain⟨a,cap,rfl,_⟩:=hx.s9
  exact⟨.int .i64 len,by simp [Builtin.len_,run_underlying ht,goInt,Sem.run_pure],.p _ _ (.int _ _)⟩
theorem FD (hb:Dh x y=some v) (hx:k_ G h x X) (hy:k_ G h y Y):∃V,(Builtin.max2 X Y).run P w=.ok V w∧k_ G h v V:=by
 unfold Dh at hb
 split at hb <;> simp only [aa9,reduceCtorEq] at hb
 subst hb
 have:=hx.oN;subst this
 have:=hy.oN;subst this
 exact⟨_,by simp [Builtin.max2,Sem.run_pure],.p _ _ (.int _ _)⟩
theorem FF (hb:Ck x y=some v) (hx:k_ G h x X) (hy:k_ G h y Y):∃V,(Builtin.min2 X Y).run P w=.ok V w∧k_ G h v V:=by
 unfold Ck at hb
 split at hb <;> simp only [aa9,reduceCtorEq] at hb
 subst hb
 have:=hx.oN;subst this
 have:=hy.oN;subst this
 exact⟨_,by simp [Builtin.min2,Sem.run_pure],.p _ _ (.int _ _)⟩
theorem FG:∀{l:List kN}{L:List Value}{x v:kN}{X:Value},Dj x l=some v→k_ G h x X→l.length=L.length→(∀(j:Nat) (u:kN) (U:Value),l[j]?=some u→L[j]?=some U→k_ G h u U) →
  ∃V,(L.foldlM Builtin.min2 X).run P w=.ok V w∧k_ G h v V
 | [],[],x,v,X,hb,hx,_,_=>by
  simp only [Dj,aa9] at hb
  subst hb
  exact⟨X,rfl,hx⟩
 | [],_::_,_,_,_,_,_,hl,_=>by simp at hl
 | _::_,[],_,_,_,_,_,hl,_=>by simp at hl
 | y::r,Y::R,x,v,X,hb,hx,hl,hr=>by
  simp only [Dj] at hb
  obtain⟨z,hz,hb⟩:=aa6.1 hb
  obtain⟨Z,e1,e2⟩:=FF (P:=P) (w:=w) hz hx (hr 0 y Y rfl rfl)
  obtain⟨V,e3,e4⟩:=FG (L:=R) hb e2 (by simpa using hl) fun j u U hu hU=>hr (j+1) u U hu hU
  exact⟨V,by simp only [List.foldlM_cons,Sem.run_bind,e1,Result.andThen_ok,e3],e4⟩
theorem FE:∀{l:List kN}{L:List Value}{x v:kN}{X:Value},Di x l=some v→k_ G h x X→l.length=L.length→(∀(j:Nat) (u:kN) (U:Value),l[j]?=some u→L[j]?=some U→k_ G h u U) →
  ∃V,(L.foldlM Builtin.max2 X).run P w=.ok V w∧k_ G h v V
 | [],[],x,v,X,hb,hx,_,_=>by
  simp only [Di,aa9] at hb
  subst hb
  exact⟨X,rfl,hx⟩
 | [],_::_,_,_,_,_,_,hl,_=>by simp at hl
 | _::_,[],_,_,_,_,_,hl,_=>by simp at hl
 | y::r,Y::R,x,v,X,hb,hx,hl,hr=>by
  simp only [Di] at hb
  obtain⟨z,hz,hb⟩:=aa6.1 hb
  obtain⟨Z,e1,e2⟩:=FD (P:=P) (w:=w) hz hx (hr 0 y Y rfl rfl)
  obtain⟨V,e3,e4⟩:=FE (L:=R) hb e2 (by simpa using hl) fun j u U hu hU=>hr (j+1) u U hu hU
  exact⟨V,by simp only [List.foldlM_cons,Sem.run_bind,e1,Result.andThen_ok,e3],e4⟩
theorem Hw {t:TypeId}{fs:Array Field}{f:Nat}{fd:Field}{n:Nat}(ht:P.underlying t=some (.struct fs)) (hf:fs[f]?=some fd)
  (hn:mX P fd.type=some (n+1)) (hb:kQ fd.offset x=some v) (hx:k_ G h x X) :
  ∃V,(Instr.fieldAt t X f).run P w=.ok V w∧k_ G h v V:=by
 have run:∀b off,(Instr.fieldAt t (.pointer (some ⟨b,off,none⟩)) f).run P w=.ok (.pointer (some (Addr.add ⟨b,off,none⟩ fd.offset))) w:=by
  intro b off
  simp [Instr.fieldAt,run_underlying ht,hf,Instr.sureAddr,fieldPlace,mW hn,Sem.run_pure]
 have hadd:∀b off,Addr.add ⟨b,off,none⟩ fd.offset=⟨b,off+fd.offset,none⟩:=by
  intro b off;unfold Addr.add;split <;> simp_all
 unfold kQ at hb
 split at hb <;> simp only [aa9,reduceCtorEq] at hb <;> subst hb
 ·rename_i id o
  obtain⟨rfl,hl⟩:=hx.yN
  exact⟨_,run _ _,by rw [hadd];exact .ptr _ _ hl⟩
 ·rename_i id tot o
  obtain⟨b,rfl,h1,h2,h3⟩:=hx.BG
  exact⟨_,run _ _,by rw [hadd];exact .vptr _ _ _ b h1 h2 h3⟩
 ·rename_i cs
  have hp:=hx.Bt
  cases hp with
  | pptr cs b off V hH hk hV =>
   refine⟨_,run _ _,.p _ _ ?_⟩
   rw [hadd]
   refine .pptr _ b (off+fd.offset) (fun j=>V (fd.offset+j)) ?_ ?_ ?_
   ·intro j v hj;rw [ah9] at hj;have:=hH _ v hj;rw [←this];congr 1;omega
   ·intro j v hj;rw [ah9] at hj;exact hk _ v hj
   ·intro j v hj;rw [ah9] at hj;exact hV _ v hj
theorem HB {t e:TypeId}{sz:Nat}(ht:P.underlying t=some (.slice e)) (hn:mX P e=some sz) (hb:mD sz x y=some v) (hx:k_ G h x X) (hy:k_ G h y Y) :
  ∃V,(Instr.indexAt t X Y).run P w=.ok V w∧k_ G h v V:=by
 have hadd:∀b off k,Addr.add ⟨b,off,none⟩ k=⟨b,off+k,none⟩:=by
  intro b off k;unfold Addr.add;split <;> simp_all
 unfold mD at hb
 split at hb
 ·rename_i rows tok k n
  have:=hy.oN;subst this
  split at hb
  ·rename_i h0
   split at hb
   ·rename_i row hrow
    split at hb <;> simp only [aa9,reduceCtorEq] at hb
    rename_i hlen
    subst hb
    have hp:=hx.uB
    have hlt:n.toNat<rows.length:=(ad0.1 hrow).1
    cases hp with
    | slice0 a cap=>simp at hlt
    | slice rows b off cap sz' V hr hc hH hk hV =>
     have:sz'=sz:=by rw [←hr row (ae0 hrow),hlen]
     subst this
     have hcond:(0:Int)≤n∧n<(rows.length:Int):=⟨h0,by omega⟩
     refine⟨.pointer (some (Addr.add ⟨b,off,none⟩ (n.toNat*sz'))),?_,.p _ _ ?_⟩
     ·simp [Instr.indexAt,asIntOf,run_underlying ht,hcond,mW hn,Sem.run_pure]
     ·rw [hadd]
      refine .pptr _ b _ (fun j=>V (n.toNat*sz'+j)) ?_ ?_ ?_
      ·intro j v hj;rw [←hH _ j row v hrow hj];congr 1;omega
      ·intro j v hj;exact hk _ j row v hrow hj
      ·intro j v hj;exact hV _ j row v hrow hj
   ·cases hb
  ·cases hb
 ·rename_i id off len sz' k n
  have:=hy.oN;subst this
  split at hb <;> simp only [aa9,reduceCtorEq] at hb
  rename_i hc
  obtain⟨h0,hlt,rfl⟩:=hc
  subst hb
  obtain⟨a,cap,rfl,hlc,ha⟩:=hx.vZ
  obtain⟨rfl,hlv⟩:=ha (by omega)
  refine⟨.pointer (some (Addr.add ⟨G.mO id,off,none⟩ (n.toNat*sz'))),?_,?_⟩
  ·simp [Instr.indexAt,asIntOf,run_underlying ht,h0,hlt,mW hn,Sem.run_pure]
  ·rw [hadd];exact .ptr _ _ hlv
 ·rename_i id tot off len sz' k n
  have:=hy.oN;subst this
  split at hb <;> simp only [aa9,reduceCtorEq] at hb
  rename_i hc
  obtain⟨h0,hlt,rfl⟩:=hc
  subst hb
  obtain⟨b,cap,rfl,hnf,htot,hlc,hv⟩:=hx.s9
  refine⟨.pointer (some (Addr.add ⟨b,off,none⟩ (n.toNat*sz'))),?_,?_⟩
  ·simp [Instr.indexAt,asIntOf,run_underlying ht,h0,hlt,mW hn,Sem.run_pure]
  ·rw [hadd]
   refine .vptr _ _ _ b hnf htot fun e=>?_
   obtain⟨l0,cap0,h1,_⟩:=hv e
   exact⟨cap0,h1⟩
 ·cases hb
theorem HA {t e:TypeId}{len sz:Nat}(ht:P.underlying t=some (.array len e)) (hn:mX P e=some sz) (hb:lQ len sz x y=some v) (hx:k_ G h x X) (hy:k_ G h y Y) :
  ∃V,(Instr.indexAt t X Y).run P w=.ok V w∧k_ G h v V:=by
 have hadd:∀b off k,Addr.add ⟨b,off,none⟩ k=⟨b,off+k,none⟩:=by
  intro b off k;unfold Addr.add;split <;> simp_all
 unfold lQ at hb
 split at hb
 ·rename_i id off k n
  have:=hy.oN;subst this
  split at hb <;> simp only [aa9,reduceCtorEq] at hb
  rename_i hc
  subst hb
  obtain⟨rfl,hl⟩:=hx.yN
  refine⟨.pointer (some (Addr.add ⟨G.mO id,off,none⟩ (n.toNat*sz))),?_,?_⟩
  ·simp [Instr.indexAt,asIntOf,run_underlying ht,Instr.sureAddr,hc,mW hn,Sem.run_pure]
  ·rw [hadd];exact .ptr _ _ hl
 ·rename_i cs k n
  have:=hy.oN;subst this
  split at hb <;> simp only [aa9,reduceCtorEq] at hb
  rename_i hc
  subst hb
  have hp:=hx.Bt
  cases hp with
  | pptr cs b off V hH hk hV =>
   refine⟨.pointer (some (Addr.add ⟨b,off,none⟩ (n.toNat*sz))),?_,.p _ _ ?_⟩
   ·simp [Instr.indexAt,asIntOf,run_underlying ht,Instr.sureAddr,hc,mW hn,Sem.run_pure]
   ·rw [hadd]
    refine .pptr _ b _ (fun j=>V (n.toNat*sz+j)) ?_ ?_ ?_
    ·intro j v hj;rw [ah9] at hj;rw [←hH _ v hj];congr 1;omega
    ·intro j v hj;rw [ah9] at hj;exact hk _ v hj
    ·intro j v hj;rw [ah9] at hj;exact hV _ v hj
 ·cases hb
end
end
section
open Go Go.RowKit
theorem Cj:∀{k1 k2:List Kd}{x y:List kN}{b:Bool},r7 (k1++k2) x y=some b →
  ∃p q,r7 k1 (x.take k1.length) (y.take k1.length)=some p∧r7 k2 (x.drop k1.length) (y.drop k1.length)=some q∧b=(p&&q)
 | [],k2,x,y,b,h=>⟨true,b,by simp [r7],by simpa using h,by simp⟩
 | k::k1,k2,[],y,b,h=>by simp [r7] at h
 | k::k1,k2,_::_,[],b,h=>by simp [r7] at h
 | k::k1,k2,x::xs,y::ys,b,h=>by
  simp only [List.cons_append,r7] at h
  split at h <;> simp only [aa9,reduceCtorEq] at h
  rename_i u v hu hv
  obtain⟨p,q,h1,h2,h3⟩:=Cj hv
  exact⟨u&&p,q,by simp [r7,hu,h1],by simpa using h2,by rw [←h,h3,Bool.and_assoc]⟩
theorem Ht:∀{ks:List Kd}{x y:List kN}{b:Bool},r7 ks x y=some b→x.length=ks.length∧y.length=ks.length
 | [],[],[],_,_=>⟨rfl,rfl⟩
 | [],_::_,_,_,h=>by simp [r7] at h
 | [],[],_::_,_,h=>by simp [r7] at h
 | _::_,[],_,_,h=>by simp [r7] at h
 | _::_,_::_,[],_,h=>by simp [r7] at h
 | k::ks,x::xs,y::ys,b,h=>by
  simp only [r7] at h
  split at h <;> simp only [aa9,reduceCtorEq] at h
  rename_i u v hu hv
  obtain⟨h1,h2⟩:=Ht hv
  simp [h1,h2]
def Rep (G:Gh) (h:kO) (g:Bool) (cx:List kN) (X:Value):Prop :=
 match g with
 | true=>∃C:Array Value,X=.agg C∧cx.length=C.size∧∀(i:Nat) (v:kN),cx[i]?=some v→k_ G h v (C.getD i undef)
 | false=>∃c,cx=[c]∧k_ G h c X
section
variable {P:Program}{G:Gh}{h:kO}{w:World}{x y v:kN}{X Y:Value}
theorem O8 {t:TypeId}{g:Bool}{n off:Nat}{cx:List kN}{C:Array Value}(hg:qG P t=some g) (hn:mX P t=some n) (h1:g=false→n=1)
  (hl:cx.length=C.size) (hr:∀(i:Nat) (v:kN),cx[i]?=some v→k_ G h v (C.getD i undef)) (hle:off+n≤cx.length) :
  ∃V,(part t C off).run P w=.ok V w∧Rep G h g ((cx.drop off).take n) V:=by
 cases g with
 | true =>
  obtain⟨V,e1,e2⟩:=yK (P:=P) (w:=w) (off:=off) (v:=.agg ((cx.drop off).take n)) hg hn (by simp [apart,hle]) hl hr
  exact⟨V,e1,e2.vB⟩
 | false =>
  have:=h1 rfl;subst this
  have hlt:off<cx.length:=by omega
  obtain⟨V,e1,e2⟩:=yK (P:=P) (w:=w) (off:=off) (v:=cx[off]) hg hn (by simp [apart,hlt]) hl hr
  exact⟨V,e1,cx[off],by rw [List.drop_eq_getElem_cons hlt,List.take_succ_cons,List.take_zero],e2⟩
theorem Bd (P:Program) (G:Gh) (h:kO) (w:World) (d D:Nat)
  (ih:∀(t:TypeId) (ks:List Kd) (g:Bool) (cx cy:List kN) (X Y:Value) (b:Bool),vE P d t=some ks→qG P t=some g→r7 ks cx cy=some b →
   Rep G h g cx X→Rep G h g cy Y→(Op.equalIn D t X Y).run P w=.ok b w)
  {cx cy:List kN}{C E:Array Value}(hlx:cx.length=C.size) (hrx:∀(i:Nat) (v:kN),cx[i]?=some v→k_ G h v (C.getD i undef))
  (hly:cy.length=E.size) (hry:∀(i:Nat) (v:kN),cy[i]?=some v→k_ G h v (E.getD i undef)) :
  ∀(fs:List Field) (off:Nat) (ks:List Kd) (b:Bool),zV P (vE P d) fs off=some ks→r7 ks (cx.drop off) (cy.drop off)=some b →
   (Op.eqFields D C E fs).run P w=.ok b w
 | [],off,ks,b,hk,hb=>by
  simp only [zV,aa9] at hk;subst hk
  have:b=true:=by
   generalize cx.drop off=a at hb;generalize cy.drop off=c at hb
   cases a <;> cases c <;> simp_all [r7]
  subst this
  simp [Op.eqFields,Sem.run_pure]
 | f::fs,off,ks,b,hk,hb=>by
  simp only [zV] at hk
  cases hnm:(f.name == "_" || f.offset != off) with
  | true=>simp [hnm] at hk
  | false =>
   simp only [hnm,cond_false] at hk
   simp only [Bool.or_eq_false_iff,beq_eq_false_iff_ne,bne_eq_false_iff_eq] at hnm
   obtain⟨hname,hoff⟩:=hnm
   split at hk
   ·rename_i k1 hk1
    cases hsz:(mX P f.type == some k1.length&&k1.length != 0) with
    | false=>simp [hsz] at hk
    | true =>
     simp only [hsz,cond_true] at hk
     simp only [Bool.and_eq_true,beq_iff_eq,bne_iff_ne,ne_eq] at hsz
     obtain⟨hsz,hne⟩:=hsz
     split at hk <;> simp only [aa9,reduceCtorEq] at hk
     rename_i k2 hk2
     subst hk
     obtain⟨p,q,e1,e2,rfl⟩:=Cj hb
     obtain⟨l1,l2⟩:=Ht e1
     obtain⟨g,hg⟩:∃g,qG P f.type=some g:=by
      unfold qG
      cases d with
      | zero=>simp [vE] at hk1
      | succ d =>
       simp only [vE] at hk1
       cases hu:P.underlying f.type with
       | none=>simp [hu] at hk1
       | some dd=>cases dd <;> simp
     have h1:g=false→k1.length=1:=by
      intro hgf;subst hgf
      cases d with
      | zero=>simp [vE] at hk1
      | succ d =>
       simp only [vE] at hk1
       unfold qG at hg
       cases hu:P.underlying f.type with
       | none=>simp [hu] at hk1
       | some dd=>cases dd <;> simp_all <;> subst hk1 <;> rfl
     have lx:off+k1.length≤cx.length:=by rw [al4,List.length_drop] at l1;omega
     have ly:off+k1.length≤cy.length:=by rw [al4,List.length_drop] at l2;omega
     obtain⟨V1,p1,r1⟩:=O8 (w:=w) (off:=off) hg hsz h1 hlx hrx lx
     obtain⟨V2,p2,r2⟩:=O8 (w:=w) (off:=off) hg hsz h1 hly hry ly
     have he:=ih f.type k1 g _ _ V1 V2 p hk1 hg e1 r1 r2
     have hrest:=Bd P G h w d D ih hlx hrx hly hry fs (off+k1.length) k2 q hk2 (by simpa [List.drop_drop] using e2)
     simp only [Op.eqFields,hoff,ne_eq,hname,not_false_eq_true,if_true,Sem.run_bind,p1,p2,he,Result.andThen_ok,Sem.run_ite]
     cases p <;> simp [Sem.run_pure,hrest]
   ·cases hk
theorem Cl (P:Program) (G:Gh) (h:kO) (w:World):∀(d D:Nat),d≤D→∀(t:TypeId) (ks:List Kd) (g:Bool) (cx cy:List kN) (X Y:Value) (b:Bool),
  vE P d t=some ks→qG P t=some g→r7 ks cx cy=some b→Rep G h g cx X→Rep G h g cy Y→(Op.equalIn D t X Y).run P w=.ok b w
 | 0,_,_,_,_,_,_,_,_,_,_,hk,_,_,_,_=>by simp [vE] at hk
 | d+1,0,hd,_,_,_,_,_,_,_,_,_,_,_,_,_=>by omega
 | d+1,D+1,hd,t,ks,g,cx,cy,X,Y,b,hk,hg,hb,hx,hy=>by
  simp only [vE] at hk
  have scal:g=false→∀k,ks=[k]→∃c c',cx=[c]∧cy=[c']∧k_ G h c X∧k_ G h c' Y∧VB k c c'=some b:=by
   intro hgf k hks;subst hgf;subst hks
   obtain⟨c,rfl,hc⟩:=hx
   obtain⟨c',rfl,hc'⟩:=hy
   refine⟨c,c',rfl,rfl,hc,hc',?_⟩
   simp only [r7] at hb
   split at hb <;> simp_all
  split at hk
  ·rename_i hu
   have hgf:g=false:=by simpa [qG,hu] using hg.symm
   obtain⟨c,c',rfl,rfl,hc,hc',he⟩:=scal hgf .b (by simpa using hk.symm)
   unfold VB at he
   split at he <;> simp_all
   have:=hc.uJ;subst this
   have:=hc'.uJ;subst this
   rw [run_equalIn_bool hu D];simp_all
  ·rename_i k0 hu
   have hgf:g=false:=by simpa [qG,hu] using hg.symm
   obtain⟨c,c',rfl,rfl,hc,hc',he⟩:=scal hgf .i (by simpa using hk.symm)
   unfold VB at he
   split at he
   ·rename_i k a k' a'
    split at he <;> simp only [aa9,reduceCtorEq] at he
    rename_i hkk;subst hkk;subst he
    have:=hc.oN;subst this
    have:=hc'.oN;subst this
    exact run_equalIn_int w D t _ _ _ _ hu
   ·simp_all
   ·simp_all
   ·cases he
  ·rename_i hu
   have hgf:g=false:=by simpa [qG,hu] using hg.symm
   obtain⟨c,c',rfl,rfl,hc,hc',he⟩:=scal hgf .s (by simpa using hk.symm)
   cases c <;> cases c' <;> simp only [VB,aa9,reduceCtorEq] at he
   rename_i a a'
   subst he
   have:=hc.xO;subst this
   have:=hc'.xO;subst this
   have:=run_equalIn_string (P:=P) w D t ⟨a.toArray⟩ ⟨a'.toArray⟩ hu
   simpa using this
  ·rename_i fs hu
   have hgt:g=true:=by simpa [qG,hu] using hg.symm
   subst hgt
   cases hst:P.stoodInHeld t with
   | true=>simp [hst] at hk
   | false =>
    simp only [hst,cond_false] at hk
    obtain⟨C,rfl,hlx,hrx⟩:=hx
    obtain⟨E,rfl,hly,hry⟩:=hy
    have hfo:P.fieldsOf t=fs:=by simp [Program.fieldsOf,hu]
    rw [run_equalIn_struct w D t C E (by rw [hfo];exact hu) hst,hfo]
    exact Bd P G h w d D (fun t ks g cx cy X Y b=>Cl P G h w d D (by omega) t ks g cx cy X Y b) hlx hrx hly hry fs.toList 0 ks b hk (by simpa using hb)
  ·cases hk
theorem FN {t:TypeId}{ks:List Kd}{b:Bool}{fs:Array Field}(ht:P.underlying t=some (.struct fs)) (hk:Dp P t=some ks) (xo yo:Operand)
  (hb:Cv ks x y=some b) (hx:k_ G h x X) (hy:k_ G h y Y) :
  (do eqGuard .eql t xo yo X Y;binOp .eql t X Y:Sem Value).run P w=.ok (.bool b) w∧(do eqGuard .neq t xo yo X Y;binOp .neq t X Y:Sem Value).run P w=.ok (.bool (!b)) w:=by
 unfold Dp at hk
 split at hk
 ·rename_i ks' hks
  cases hm:P.eqGuardType P.depth t with
  | true=>simp [hm] at hk
  | false =>
   simp only [hm,cond_false,aa9] at hk;subst hk
   unfold Cv at hb
   split at hb
   ·obtain⟨C,rfl,hlx,hrx⟩:=hx.vB
    obtain⟨E,rfl,hly,hry⟩:=hy.vB
    have he:=Cl P G h w 12 10000 (by omega) t ks' true _ _ (.agg C) (.agg E) b hks (by simp [qG,ht]) hb ⟨C,rfl,hlx,hrx⟩ ⟨E,rfl,hly,hry⟩
    constructor
    ·simp only [Sem.run_bind,run_eqGuard_agg w .eql t xo yo C E hm,Result.andThen_ok,run_eql_struct,he]
    ·simp only [Sem.run_bind,run_eqGuard_agg w .neq t xo yo C E hm,Result.andThen_ok,run_neq_struct,he]
   ·cases hb
 ·cases hk
end
end
section
open Go Go.RowKit
def mF (G:Gh) (id:Nat):lN→Option Nat
 | .cells _ | .map _ | .tcells _ _=>some (G.mO id)
 | .front _ _ _ | .vec _ _ _=>(G.cur id).ownBlock
 | _=>none
theorem mM {G:Gh}{h:kO}{id:Nat}{bl:lN}(hb:h[id]?=some bl):owner G h id=mF G id bl:=by
 unfold owner;rw [hb];cases bl <;> rfl
theorem oC {G:Gh}{h:kO}{id b:Nat}(ho:owner G h id=some b):∃bl,h[id]?=some bl∧mF G id bl=some b:=by
 cases hb:h[id]? with
 | none=>simp [owner,hb] at ho
 | some bl=>exact⟨bl,rfl,by rw [←mM hb];exact ho⟩
theorem xE.lt {G:Gh}{h:kO}{w:World}{id b:Nat}{bl:lN}(hk:xE G h w id bl) (ho:mF G id bl=some b):b<w.heap.size:=by
 have aux:∀{o:Obj},w.heap[b]?=some o→b<w.heap.size:=fun h=>(Array.getElem?_eq_some_iff.1 h).1
 cases bl with
 | free=>cases ho
 | gone=>cases ho
 | cells cs=>obtain⟨C,e,h1,_⟩:=hk;cases ho;exact aux h1
 | tcells t cs=>obtain⟨C,h1,_⟩:=hk;cases ho;exact aux h1
 | map es=>obtain⟨E,c,h1,_⟩:=hk;cases ho;exact aux h1
 | front n sz t =>
  rcases hk with ⟨_,h1⟩ | ⟨b',cap,C,e,h1,h2,_⟩
  ·simp [mF,h1,Value.ownBlock] at ho
  ·simp [mF,h1,Value.ownBlock] at ho;subst ho;exact aux h2
 | vec tot sz cs =>
  obtain⟨b',cap,C,e,h1,h2,_⟩:=hk
  simp [mF,h1,Value.ownBlock] at ho;subst ho;exact aux h2
theorem Inv.lt {G:Gh}{h:kO}{w:World}(i:Inv G h w) {id b:Nat}(ho:owner G h id=some b):b<w.heap.size:=by
 obtain⟨bl,hb,hob⟩:=oC ho
 exact(i.mO id bl hb).lt hob
theorem xE.OW {G G':Gh}{h h':kO}{w w':World}{id:Nat}{bl:lN}(m:Cb G h G' h') (hblk:G'.mO id=G.mO id) (hcur:G'.cur id=G.cur id)
  (hh:∀b,mF G id bl=some b→w'.heap[b]?=w.heap[b]?∧∀k,G'.H b k=G.H b k) (hk:xE G h w id bl):xE G' h' w' id bl:=by
 cases bl with
 | free=>trivial
 | gone=>trivial
 | cells cs =>
  obtain⟨C,e,h1,h2,h3,h4⟩:=hk
  obtain⟨e1,e2⟩:=hh _ rfl
  exact⟨C,e,by rw [hblk,e1,h1],h2,fun k=>by rw [hblk,e2,h3],fun i v hv=>⟨(h4 i v hv).1,(h4 i v hv).2.mono m⟩⟩
 | tcells t cs =>
  obtain⟨C,h1,h2,h3,h4⟩:=hk
  obtain⟨e1,e2⟩:=hh _ rfl
  exact⟨C,by rw [hblk,e1,h1],h2,fun k=>by rw [hblk,e2,h3],fun i v hv=>⟨(h4 i v hv).1,(h4 i v hv).2.mono m⟩⟩
 | map es =>
  obtain⟨E,c,h1,h2,h3,h4,h5⟩:=hk
  obtain⟨e1,e2⟩:=hh _ rfl
  refine⟨E,c,by rw [hblk,e1,h1],h2,fun k=>by rw [hblk,e2,h3],fun i kv hv=>?_,h5⟩
  obtain⟨mm,a1,a2,a3,a4⟩:=h4 i kv hv
  exact⟨mm,a1,a2,a3.mono m.hmono,a4.mono m⟩
 | front n sz t =>
  rcases hk with ⟨h0,h1⟩ | ⟨b,cap,C,e,h1,h2,h3,h4,h5,h50,h6,h7⟩
  ·exact .inl ⟨h0,by rw [hcur,h1]⟩
  ·obtain⟨e1,e2⟩:=hh b (by simp [mF,h1,Value.ownBlock])
   exact .inr ⟨b,cap,C,e,by rw [hcur,h1],by rw [e1,h2],h3,h4,h5,h50,fun k hk=>by rw [e2,h6 k hk],h7⟩
 | vec tot sz cs =>
  obtain⟨b,cap,C,e,h1,h2,h3,h4,h5,h6,h7,h8,h9⟩:=hk
  obtain⟨e1,e2⟩:=hh b (by simp [mF,h1,Value.ownBlock])
  exact⟨b,cap,C,e,by rw [hcur,h1],by rw [e1,h2],h3,h4,h5,h6,h7,fun k=>by rw [e2,h8 k],fun i v hv=>⟨(h9 i v hv).1,(h9 i v hv).2.mono m⟩⟩
theorem Inv.push {G G':Gh}{h:kO}{ext:List lN}{w w':World}(i:Inv G h w)
  (os:w'.os=w.os) (tape:w'.tape=w.tape) (output:w'.output=w.output) (size:w.heap.size≤w'.heap.size)
  (heap:∀k,k<w.heap.size→w'.heap[k]?=w.heap[k]?)
  (gblk:∀id,id<h.length→G'.mO id=G.mO id) (gcur:∀id,id<h.length→G'.cur id=G.cur id)
  (hH:∀b k v,G.H b k=some v→G'.H b k=some v) (hHold:∀b k,b<w.heap.size→G'.H b k=G.H b k)
  (hok:∀b k v,w.heap.size≤b→G'.H b k=some v→w'.cell? ⟨b,k,none⟩=some v)
  (hnew:∀j bl,ext[j]?=some bl→Cb G h G' (h++ext)→xE G' (h++ext) w' (h.length+j) bl)
  (hown:∀j bl b,ext[j]?=some bl→mF G' (h.length+j) bl=some b→w.heap.size≤b)
  (hinj:∀j j' bl bl' b,ext[j]?=some bl→ext[j']?=some bl'→mF G' (h.length+j) bl=some b→mF G' (h.length+j') bl'=some b→j=j') :
  Inv G' (h++ext) w'∧Ext G h w G' (h++ext) w':=by
 have m:Cb G h G' (h++ext):=⟨hH,fun id bl hb=>by
  have hlt:id<h.length:=(ad0.1 hb).1
  refine⟨bl,by rw [ah6 hlt];exact hb,?_⟩
  have e1:=gblk id hlt
  have e2:=gcur id hlt
  cases bl <;> simp [Kind,e1,e2]⟩
 have hget:∀id bl,(h++ext)[id]?=some bl→(id<h.length∧h[id]?=some bl)∨(h.length≤id∧ext[id-h.length]?=some bl):=by
  intro id bl hb
  by_cases hlt:id<h.length
  ·rw [ah6 hlt] at hb;exact .inl ⟨hlt,hb⟩
  ·rw [af7 (by omega)] at hb;exact .inr ⟨by omega,hb⟩
 have own:∀id b,owner G' (h++ext) id=some b→(id<h.length∧owner G h id=some b)∨(h.length≤id∧w.heap.size≤b∧∃bl,ext[id-h.length]?=some bl∧mF G' id bl=some b):=by
  intro id b ho
  obtain⟨bl,hb,hob⟩:=oC ho
  rcases hget id bl hb with ⟨hlt,h1⟩ | ⟨hge,h1⟩
  ·refine .inl ⟨hlt,?_⟩
   rw [mM h1]
   cases bl <;> simp_all [mF]
  ·have he:h.length+(id-h.length)=id:=by omega
   exact .inr ⟨hge,hown _ bl b h1 (by rw [he];exact hob),bl,h1,hob⟩
 refine⟨⟨?_,?_,?_⟩,⟨os,tape,output,size,fun b hb _=>⟨heap b hb,fun k=>hHold b k hb⟩,hH,?_,m.kinds⟩⟩
 ·intro b k v hv
  by_cases hb:b<w.heap.size
  ·rw [hHold b k hb] at hv
   rw [World.cell?_of_block (w:=w) (heap b hb)]
   exact i.ok b k v hv
  ·exact hok b k v (by omega) hv
 ·intro id bl hb
  rcases hget id bl hb with ⟨hlt,h1⟩ | ⟨hge,h1⟩
  ·refine(i.mO id bl h1).OW m (gblk id hlt) (gcur id hlt) fun b ho=>?_
   have hb:=(i.mO id bl h1).lt ho
   exact⟨heap b hb,fun k=>hHold b k hb⟩
  ·have:=hnew (id-h.length) bl h1 m
   rwa [show h.length+(id-h.length)=id by omega] at this
 ·intro x y b hx hy
  rcases own x b hx with ⟨_,h1⟩ | ⟨hx1,hx2,bl,hx3,hx4⟩ <;> rcases own y b hy with ⟨_,h2⟩ | ⟨hy1,hy2,bl',hy3,hy4⟩
  ·exact i.inj x y b h1 h2
  ·have:=i.lt h1;omega
  ·have:=i.lt h2;omega
  ·have:=hinj (x-h.length) (y-h.length) bl bl' b hx3 hy3 (by rw [show h.length+(x-h.length)=x by omega];exact hx4) (by rw [show h.length+(y-h.length)=y by omega];exact hy4)
   omega
 ·intro id b ho hb
  rcases own id b ho with ⟨_,h1⟩ | ⟨_,h2,_⟩
  ·exact h1
  ·omega
theorem Inv.step {G G':Gh}{h:kO}{w w':World}(i:Inv G h w) (id:Nat) (old new:lN) (hold:h[id]?=some old)
  (os:w'.os=w.os) (tape:w'.tape=w.tape) (output:w'.output=w.output) (size:w.heap.size≤w'.heap.size)
  (heap:∀k,k<w.heap.size→mF G id old≠some k→w'.heap[k]?=w.heap[k]?)
  (gblk:∀j,j≠id→G'.mO j=G.mO j) (gcur:∀j,j≠id→G'.cur j=G.cur j)
  (hH:∀b k v,G.H b k=some v→G'.H b k=some v) (hHold:∀b k,b<w.heap.size→mF G id old≠some b→G'.H b k=G.H b k)
  (hok:∀b k v,(w.heap.size≤b∨mF G id old=some b)→G'.H b k=some v→w'.cell? ⟨b,k,none⟩=some v)
  (hkind:Kind G G' id old new)
  (hnew:Cb G h G' (h.set id new)→xE G' (h.set id new) w' id new)
  (hown:∀b,mF G' id new=some b→w.heap.size≤b∨mF G id old=some b) :
  Inv G' (h.set id new) w'∧Ext G h w G' (h.set id new) w':=by
 have hlt:id<h.length:=(ad0.1 hold).1
 have hsame:(h.set id new)[id]?=some new:=by simp [hlt]
 have hne:∀j,j≠id→(h.set id new)[j]?=h[j]?:=fun j hj=>List.getElem?_set_ne (Ne.symm hj)
 have m:Cb G h G' (h.set id new):=⟨hH,fun j bl hb=>by
  by_cases hj:j=id
  ·subst hj;rw [hold] at hb;cases hb;exact⟨new,hsame,hkind⟩
  ·refine⟨bl,by rw [hne j hj];exact hb,?_⟩
   have e1:=gblk j hj
   have e2:=gcur j hj
   cases bl <;> simp [Kind,e1,e2]⟩
 have own:∀j b,owner G' (h.set id new) j=some b→(j≠id∧owner G h j=some b)∨(j=id∧(w.heap.size≤b∨owner G h id=some b)):=by
  intro j b ho
  by_cases hj:j=id
  ·subst hj
   rw [mM hsame] at ho
   exact .inr ⟨rfl,by rw [mM hold];exact hown b ho⟩
  ·refine .inl ⟨hj,?_⟩
   obtain⟨bl,hb,hob⟩:=oC ho
   rw [hne j hj] at hb
   rw [mM hb]
   have e1:=gblk j hj
   have e2:=gcur j hj
   cases bl <;> simp_all [mF]
 refine⟨⟨?_,?_,?_⟩,⟨os,tape,output,size,fun b hb hn=>?_,hH,?_,m.kinds⟩⟩
 ·intro b k v hv
  by_cases hb:b<w.heap.size∧mF G id old≠some b
  ·rw [hHold b k hb.1 hb.2] at hv
   rw [World.cell?_of_block (w:=w) (heap b hb.1 hb.2)]
   exact i.ok b k v hv
  ·refine hok b k v ?_ hv
   by_cases h1:w.heap.size≤b
   ·exact .inl h1
   ·exact .inr (Classical.byContradiction fun h2=>hb ⟨by omega,h2⟩)
 ·intro j bl hb
  by_cases hj:j=id
  ·subst hj;rw [hsame] at hb;cases hb;exact hnew m
  ·rw [hne j hj] at hb
   refine(i.mO j bl hb).OW m (gblk j hj) (gcur j hj) fun b ho=>?_
   have h1:=(i.mO j bl hb).lt ho
   have h2:mF G id old≠some b:=fun e=>hj (i.inj j id b (by rw [mM hb];exact ho) (by rw [mM hold];exact e))
   exact⟨heap b h1 h2,fun k=>hHold b k h1 h2⟩
 ·intro x y b hx hy
  rcases own x b hx with ⟨hx1,h1⟩ | ⟨rfl,h1⟩ <;> rcases own y b hy with ⟨hy1,h2⟩ | ⟨rfl,h2⟩
  ·exact i.inj x y b h1 h2
  ·rcases h2 with h2 | h2
   ·have:=i.lt h1;omega
   ·exact i.inj x y b h1 h2
  ·rcases h1 with h1 | h1
   ·have:=i.lt h2;omega
   ·exact i.inj x y b h1 h2
  ·rfl
 ·have:mF G id old≠some b:=fun e=>hn id (by rw [mM hold];exact e)
  exact⟨heap b hb this,fun k=>hHold b k hb this⟩
 ·intro j b ho hb
  rcases own j b ho with ⟨_,h1⟩ | ⟨rfl,h1 | h1⟩
  ·exact h1
  ·omega
  ·exact h1
end
section
open Go Go.RowKit
theorem add_plain (b off k:Nat):Addr.add ⟨b,off,none⟩ k=⟨b,off+k,none⟩:=by unfold Addr.add;split <;> simp_all
theorem uX {h:kO}{id tot:Nat}{x:Nat×List kN}(hg:n6 h id tot=some x):h[id]?=some (.vec tot x.1 x.2):=by
 unfold n6 at hg
 split at hg
 ·rename_i tot' sz cs hid
  split at hg
  ·rename_i he;cases hg;rw [hid,he]
  ·cases hg
 ·cases hg
theorem FP {h:kO}{id:Nat}{cs:List kN}(hg:pM h id=some cs):h[id]?=some (.cells cs):=by
 unfold pM at hg
 split at hg <;> simp_all
section
variable {P:Program}{G:Gh}{h:kO}{w:World}{x y v:kN}{X Y V:Value}
theorem cell_of (w:World) (g i:Nat) {C:Array Value}{t:TypeId}{fr:Nat×Nat}(hg:w.heap[g]?=some (.cells C t fr)):w.cell? ⟨g,i,none⟩=C[i]?:=by
 simp [World.cell?,hg]
theorem AA {t:TypeId}{g:Bool}{n:Nat}(hg:qG P t=some g) (hn:mX P t=some n) (b o:Nat) (cs:List kN) (off:Nat) (F:Nat→Value)
  (hb:apart g n cs off=some v) (hc:∀(j:Nat) (u:kN),cs[j]?=some u→off≤j→w.cell? ⟨b,o+(j-off),none⟩=some (F j)∧k_ G h u (F j)) :
  ∃V,(loadVar t ⟨b,o,none⟩).run P w=.ok V w∧k_ G h v V:=by
 unfold apart at hb
 cases g with
 | true =>
  simp only [cond_true] at hb
  split at hb <;> simp only [aa9,reduceCtorEq] at hb
  rename_i hle
  subst hb
  have hl:=run_loadCells (P:=P) w ⟨b,o,none⟩ n (fun j=>F (off+j)) (fun j hj=>by
   have hj':cs[off+j]?=some cs[off+j]:=ae1 (by omega)
   have:=(hc (off+j) _ hj' (by omega)).1
   rw [add_plain]
   rwa [show off+j-off=j by omega] at this)
  refine⟨.agg ((ar2 n).map fun j=>F (off+j)).toArray,?_,.agg _ _ ?_ ?_⟩
  ·simp [loadVar,CK hg,mW hn,hl,Sem.run_pure]
  ·simp;omega
  ·intro i u hu
   rw [ah8] at hu
   split at hu
   ·rename_i hi
    rw [ah9] at hu
    have:=(hc (off+i) u hu (by omega)).2
    simpa [ad1,hi] using this
   ·cases hu
 | false =>
  simp only [cond_false] at hb
  obtain⟨h1,h2⟩:=hc off v hb (al1 _)
  refine⟨F off,?_,h2⟩
  rw [Nat.sub_self,aq9] at h1
  simp [loadVar,CK hg,run_load,h1]
theorem FC {t:TypeId}{g:Bool}{n:Nat}(hg:qG P t=some g) (hn:mX P t=some n) (i:Inv G h w) (hb:kY g n h x=some v) (hx:k_ G h x X) :
  ∃V,(Instr.loadAt t X).run P w=.ok V w∧k_ G h v V:=by
 unfold kY at hb
 split at hb
 ·rename_i cs
  have hp:=hx.Bt
  cases hp with
  | pptr cs b off F hH hk hV =>
   obtain⟨V,h1,h2⟩:=AA (P:=P) (G:=G) (h:=h) (w:=w) hg hn b off cs 0 F hb (fun j u hu _=>⟨i.ok _ _ _ (hH j u hu),.p _ _ (hV j u hu)⟩)
   exact⟨V,by simp [Instr.loadAt,Instr.sureAddr,h1],h2⟩
 ·rename_i id off
  split at hb
  ·rename_i cs hgb
   unfold pM at hgb
   split at hgb <;> simp only [aa9,reduceCtorEq] at hgb
   rename_i cs' hid
   subst hgb
   obtain⟨rfl,_⟩:=hx.yN
   obtain⟨C,e,h1,h2,h3,h4⟩:=i.mO id _ hid
   obtain⟨V,r1,r2⟩:=AA (P:=P) (G:=G) (h:=h) (w:=w) hg hn (G.mO id) off cs' off (fun j=>C.getD j undef) hb (fun j u hu hj=>by
    have hlt:j<C.size:=by rw [h2];exact(ad0.1 hu).1
    refine⟨?_,(h4 j u hu).2⟩
    rw [cell_of w _ _ h1,show off+(j-off)=j by omega,Array.getElem?_eq_getElem hlt]
    simp [ad1,hlt])
   exact⟨V,by simp [Instr.loadAt,Instr.sureAddr,r1],r2⟩
  ·cases hb
 ·rename_i id tot off
  split at hb
  ·rename_i x hgb
   have hid:=uX hgb
   obtain⟨tot,hX,h1,h2,h3⟩:=hx.BG
   obtain⟨b,cap,C,e,g1,g2,g3,g4,g5,g6,g7,g8,g9⟩:=i.mO id _ hid
   obtain⟨cap0,h4⟩:=h3 (by rw [g1];rfl)
   rw [g1] at h4
   simp only [Value.slice.injEq,aa9,Addr.mk.injEq] at h4
   obtain⟨⟨rfl,_⟩,_,rfl⟩:=h4
   subst hX
   obtain⟨V,r1,r2⟩:=AA (P:=P) (G:=G) (h:=h) (w:=w) hg hn b off x.2 off (fun j=>C.getD j undef) hb (fun j u hu hj=>by
    have hlt:j<C.size:=by
     have:=(ad0.1 hu).1
     rw [g5]
     exact Nat.lt_of_lt_of_le (by rw [g7] at this;exact this) (am6 _ g3)
    refine⟨?_,(g9 j u hu).2⟩
    rw [cell_of w _ _ g2,show off+(j-off)=j by omega,Array.getElem?_eq_getElem hlt]
    simp [ad1,hlt])
   exact⟨V,by simp [Instr.loadAt,Instr.sureAddr,r1],r2⟩
  ·cases hb
 ·cases hb
theorem qH (cs vs:List kN) (off:Nat) (h:off+vs.length≤cs.length):(kU cs off vs).length=cs.length:=by
 simp [kU];omega
theorem tM (cs vs:List kN) (off i:Nat) (h:off+vs.length≤cs.length) :
  (kU cs off vs)[i]?=if i<off then cs[i]? else if i<off+vs.length then vs[i-off]? else cs[i]?:=by
 unfold kU
 by_cases h1:i<off
 ·rw [if_pos h1,List.append_assoc,ah6 (by simp;omega),ah8,if_pos h1]
 ·rw [if_neg h1,List.append_assoc,af7 (by simp;omega)]
  simp only [al4]
  rw [Nat.min_eq_left (by omega)]
  by_cases h2:i<off+vs.length
  ·rw [if_pos h2,ah6 (by omega)]
  ·rw [if_neg h2,af7 (by omega),ah9]
   congr 1;omega
theorem rN (C:Array Value) (U:List Value) (off i:Nat) (h:off+U.length≤C.size) :
  (C.toList.take off++U++C.toList.drop (off+U.length)).toArray[i]?=if i<off then C[i]? else if i<off+U.length then U[i-off]? else C[i]?:=by
 rw [List.getElem?_toArray]
 by_cases h1:i<off
 ·rw [if_pos h1,List.append_assoc,ah6 (by simp;omega),ah8,if_pos h1,ah1]
 ·rw [if_neg h1,List.append_assoc,af7 (by simp;omega)]
  simp only [al4,aq7]
  rw [Nat.min_eq_left (by omega)]
  by_cases h2:i<off+U.length
  ·rw [if_pos h2,ah6 (by omega)]
  ·rw [if_neg h2,af7 (by omega),ah9,ah1]
   congr 1;omega
theorem Inv.write (i:Inv G h w) {id off:Nat}{cs vs:List kN}{C:Array Value}{e:TypeId}{U:List Value}(hid:h[id]?=some (.cells cs))
  (hC:w.heap[G.mO id]?=some (.cells C e (0,0))) (hle:off+vs.length≤cs.length) (hU:U.length=vs.length)
  (hrel:∀(j:Nat) (u:kN),vs[j]?=some u→u.lS=true∧k_ G h u (U.getD j undef)) :
  Inv G (h.set id (.cells (kU cs off vs))) (w.setRow (G.mO id) (C.toList.take off++U++C.toList.drop (off+U.length)).toArray) ∧
   Ext G h w G (h.set id (.cells (kU cs off vs))) (w.setRow (G.mO id) (C.toList.take off++U++C.toList.drop (off+U.length)).toArray):=by
 obtain⟨C',e',h1,h2,h3,h4⟩:=i.mO id _ hid
 rw [hC] at h1
 simp only [aa9,Obj.cells.injEq] at h1
 obtain⟨rfl,rfl,_⟩:=h1
 refine i.step id (.cells cs) _ hid (by simp) (by simp) (by simp) (by simp) ?_ (fun _ _=>rfl) (fun _ _=>rfl) (fun _ _ _ hh=>hh) (fun _ _ _ _=>rfl) ?_ ?_ ?_ ?_
 ·intro k _ hk
  exact setRow_other w _ k _ (fun e=>hk (by simp [mF,e]))
 ·intro b k v hb hv
  rcases hb with hb | hb
  ·have:=i.ok b k v hv
   have hlt:b<w.heap.size:=by
    unfold World.cell? at this
    cases hh:w.heap[b]? with
    | none=>simp [hh] at this
    | some o=>exact(Array.getElem?_eq_some_iff.1 hh).1
   omega
  ·simp only [mF,aa9] at hb
   subst hb
   rw [h3] at hv;cases hv
 ·exact⟨(qH cs vs off hle).symm,rfl,rfl⟩
 ·intro m
  have hoff:off+U.length≤C.size:=by rw [hU,h2];exact hle
  refine⟨_,e,setRow_heap w _ C _ e _ hC,?_,h3,fun j u hu=>?_⟩
  ·rw [qH cs vs off hle];simp;omega
  ·rw [tM cs vs off j hle] at hu
   rw [ad1,rN C U off j hoff]
   split at hu
   ·rename_i hj
    rw [if_pos hj]
    exact⟨(h4 j u hu).1,by have:=(h4 j u hu).2.mono m;rwa [ad1] at this⟩
   ·rename_i hj
    rw [if_neg hj]
    split at hu
    ·rename_i hj2
     rw [if_pos (by rw [hU];exact hj2)]
     obtain⟨a1,a2⟩:=hrel _ u hu
     refine⟨a1,?_⟩
     have:=a2.mono m
     rwa [ad9] at this
    ·rename_i hj2
     rw [if_neg (by rw [hU];exact hj2)]
     exact⟨(h4 j u hu).1,by have:=(h4 j u hu).2.mono m;rwa [ad1] at this⟩
 ·intro b hb
  exact .inr hb
theorem Inv.Tj (i:Inv G h w) {id tot sz off b cap:Nat}{cs vs:List kN}{C:Array Value}{e:TypeId}{U:List Value}(hid:h[id]?=some (.vec tot sz cs))
  (hcur:G.cur id=.slice (some ⟨b,0,none⟩) tot cap) (hC:w.heap[b]?=some (.cells C e (0,0))) (hle:off+vs.length≤cs.length) (hU:U.length=vs.length)
  (hrel:∀(j:Nat) (u:kN),vs[j]?=some u→u.lS=true∧k_ G h u (U.getD j undef)) :
  Inv G (h.set id (.vec tot sz (kU cs off vs))) (w.setRow b (C.toList.take off++U++C.toList.drop (off+U.length)).toArray) ∧
   Ext G h w G (h.set id (.vec tot sz (kU cs off vs))) (w.setRow b (C.toList.take off++U++C.toList.drop (off+U.length)).toArray):=by
 obtain⟨b',cap',C',e',g1,g2,g3,g4,g5,g6,g7,g8,g9⟩:=i.mO id _ hid
 rw [hcur] at g1
 simp only [Value.slice.injEq,aa9,Addr.mk.injEq] at g1
 obtain⟨⟨rfl,_⟩,_,rfl⟩:=g1
 rw [hC] at g2
 simp only [aa9,Obj.cells.injEq] at g2
 obtain⟨rfl,rfl,_⟩:=g2
 have hown:mF G id (.vec tot sz cs)=some b:=by simp [mF,hcur,Value.ownBlock]
 have hcl:cs.length≤C.size:=by rw [g7,g5];exact am6 _ g3
 refine i.step id (.vec tot sz cs) _ hid (by simp) (by simp) (by simp) (by simp) ?_ (fun _ _=>rfl) (fun _ _=>rfl) (fun _ _ _ hh=>hh) (fun _ _ _ _=>rfl) ?_ ?_ ?_ ?_
 ·intro k _ hk
  exact setRow_other w _ k _ (fun e=>hk (by rw [hown,e]))
 ·intro b' k v hb hv
  rcases hb with hb | hb
  ·have:=i.ok b' k v hv
   have hlt:b'<w.heap.size:=by
    unfold World.cell? at this
    cases hh:w.heap[b']? with
    | none=>simp [hh] at this
    | some o=>exact(Array.getElem?_eq_some_iff.1 hh).1
   omega
  ·rw [hown] at hb
   cases hb
   rw [g8] at hv;cases hv
 ·exact⟨rfl,al1 _,fun _=>rfl⟩
 ·intro m
  have hoff:off+U.length≤C.size:=by omega
  refine⟨b,cap,_,e,hcur,setRow_heap w _ C _ e _ hC,g3,g4,by simp;omega,g6,by rw [qH cs vs off hle];exact g7,g8,fun j u hu=>?_⟩
  rw [tM cs vs off j hle] at hu
  rw [ad1,rN C U off j hoff]
  split at hu
  ·rename_i hj
   rw [if_pos hj]
   exact⟨(g9 j u hu).1,by have:=(g9 j u hu).2.mono m;rwa [ad1] at this⟩
  ·rename_i hj
   rw [if_neg hj]
   split at hu
   ·rename_i hj2
    rw [if_pos (by rw [hU];exact hj2)]
    obtain⟨a1,a2⟩:=hrel _ u hu
    refine⟨a1,?_⟩
    have:=a2.mono m
    rwa [ad9] at this
   ·rename_i hj2
    rw [if_neg (by rw [hU];exact hj2)]
    exact⟨(g9 j u hu).1,by have:=(g9 j u hu).2.mono m;rwa [ad1] at this⟩
 ·intro b' hb
  exact .inr (by rw [hown];simpa [mF,hcur,Value.ownBlock] using hb)
theorem Qi {o v u:kN}(hu:uM h o v=u):u=v∨(v=.slice [] .nil∧∃id,u=.slice [] (.own id)∧h[id]?=some (.front 0 0)):=by
 unfold uM at hu
 cases hn:v.isNil with
 | false=>rw [hn] at hu;exact .inl hu.symm
 | true =>
  rw [hn] at hu
  simp only [cond_true] at hu
  have hv:v=.slice [] .nil:=by
   unfold kN.isNil at hn
   split at hn
   ·rfl
   ·cases hn
  split at hu
  ·rename_i id
   split at hu
   ·rename_i hf;exact .inr ⟨hv,id,hu.symm,hf⟩
   ·exact .inl hu.symm
  ·exact .inl hu.symm
theorem x6:∀{os vs:List kN},(nQ h os vs).length=vs.length
 | [],_=>by simp [nQ]
 | _::_,[]=>by simp [nQ]
 | _::os,_::vs=>by simp [nQ,x6 (os:=os) (vs:=vs)]
theorem FU:∀{os vs:List kN}{j:Nat}{u:kN},(nQ h os vs)[j]?=some u→∃v,vs[j]?=some v∧(u=v∨(v=.slice [] .nil∧∃id,u=.slice [] (.own id)∧h[id]?=some (.front 0 0)))
 | [],vs,j,u,hu=>⟨u,by simpa [nQ] using hu,.inl rfl⟩
 | _::_,[],j,u,hu=>by simp [nQ] at hu
 | o::os,v::vs,0,u,hu=>by
  simp only [nQ,List.getElem?_cons_zero,aa9] at hu
  exact⟨v,rfl,Qi hu⟩
 | o::os,v::vs,j+1,u,hu=>by
  simp only [nQ,List.getElem?_cons_succ] at hu
  obtain⟨v',h1,h2⟩:=FU hu
  exact⟨v',by simpa using h1,h2⟩
theorem Wi (i:Inv G h w) {u v:kN}{V:Value}(hk:u=v∨(v=.slice [] .nil∧∃id,u=.slice [] (.own id)∧h[id]?=some (.front 0 0))) (hc:v.lS=true) (hr:k_ G h v V):u.lS=true∧k_ G h u V:=by
 rcases hk with rfl | ⟨rfl,id,rfl,hf⟩
 ·exact⟨hc,hr⟩
 ·have hb:=i.mO id _ hf
  have hV:V=.slice none 0 0:=by
   cases hr with
   | p _ _ hp=>cases hp
   | nil=>rfl
  have hcur:G.cur id=.slice none 0 0:=by
   rcases hb with ⟨_,h1⟩ | ⟨b,cap,C,e,h1,h2,h3,h4,h5,h6,_⟩
   ·exact h1
   ·omega
  subst hV
  exact⟨rfl,.own [] id 0 0 _ (.slice0 none 0) hf (al1 _) (by simp) fun _=>hcur.symm⟩
theorem Dl {t:TypeId}{n:Nat}{h':kO}(hn:mX P t=some n) (i:Inv G h w) (hb:kR n h x y=some h') (hx:k_ G h x X) (hy:k_ G h y Y) :
  ∃w',(Instr.storeAt t X Y).run P w=.ok () w'∧Inv G h' w'∧Ext G h w G h' w':=by
 unfold kR at hb
 split at hb
 ·rename_i id off
  cases hgb:pM h id with
  | none=>simp [hgb] at hb
  | some cs' =>
   have hid:=FP hgb
   simp only [hgb] at hb
   obtain⟨z,hz,hzr⟩:∃z:kN,y.cells=z.cells∧k_ G h z Y:=⟨_,rfl,hy⟩
   rw [hz] at hb
   split at hb
   case isFalse=>cases hb
   rename_i hcond
   obtain⟨hlen,hle,hall⟩:=hcond
   injection hb with hb
   subst hb
   obtain⟨rfl,_⟩:=hx.yN
   obtain⟨C,e,h1,h2,h3,h4⟩:=i.mO id _ hid
   obtain⟨c1,c2⟩:=BO hzr hall
   have hU:Y.cells.toList.length=z.cells.length:=by rw [aq7,c1]
   have h1c:∀u∈Y.cells.toList,u.oneCell'=true:=by
    intro u hu
    obtain⟨j,hj⟩:=List.getElem?_of_mem hu
    have hjl:j<z.cells.length:=by rw [←hU];exact(ad0.1 hj).1
    obtain⟨a1,a2⟩:=c2 j _ (ae1 hjl)
    have hval:Y.cells.getD j undef=u:=by rw [ad1,←ah1,hj];rfl
    rw [hval] at a2
    exact(a2.BU a1).1
   have hst:=run_storeCells_at P (G.mO id) off e Y.cells.toList 0 C w h1 (by rw [aq7,h2];omega) h1c
   simp only [aq9] at hst
   have hw:=i.write (off:=off) (vs:=nQ h (cs'.drop off) z.cells) (U:=Y.cells.toList) hid h1 (by rw [x6];omega) (by rw [x6];exact hU) (fun j u hu=>by
    obtain⟨v,hv,hk⟩:=FU hu
    obtain⟨a1,a2⟩:=c2 j v hv
    rw [ad9,ah1]
    rw [ad1] at a2
    exact Wi i hk a1 a2)
   refine⟨_,?_,hw⟩
   have hsz:Y.cells.size=n:=by omega
   simp [Instr.storeAt,Instr.sureAddr,storeVar,mW hn,hsz,hst]
 ·rename_i id tot off
  cases hgb:n6 h id tot with
  | none=>simp [hgb] at hb
  | some x0 =>
   have hid:=uX hgb
   simp only [hgb] at hb
   obtain⟨z,hz,hzr⟩:∃z:kN,y.cells=z.cells∧k_ G h z Y:=⟨_,rfl,hy⟩
   rw [hz] at hb
   split at hb
   case isFalse=>cases hb
   rename_i hcond
   obtain⟨hlen,hle,hall⟩:=hcond
   injection hb with hb
   subst hb
   obtain⟨b,hX,_,_,h3⟩:=hx.BG
   obtain⟨b',cap,C,e,g1,g2,g3,g4,g5,g6,g7,g8,g9⟩:=i.mO id _ hid
   obtain⟨cap0,h4⟩:=h3 (by rw [g1];rfl)
   have h4':=h4
   rw [g1] at h4
   simp only [Value.slice.injEq,aa9,Addr.mk.injEq] at h4
   obtain⟨⟨rfl,_⟩,_,rfl⟩:=h4
   subst hX
   obtain⟨c1,c2⟩:=BO hzr hall
   have hU:Y.cells.toList.length=z.cells.length:=by rw [aq7,c1]
   have h1c:∀u∈Y.cells.toList,u.oneCell'=true:=by
    intro u hu
    obtain⟨j,hj⟩:=List.getElem?_of_mem hu
    have hjl:j<z.cells.length:=by rw [←hU];exact(ad0.1 hj).1
    obtain⟨a1,a2⟩:=c2 j _ (ae1 hjl)
    have hval:Y.cells.getD j undef=u:=by rw [ad1,←ah1,hj];rfl
    rw [hval] at a2
    exact(a2.BU a1).1
   have hcl:x0.2.length≤C.size:=by rw [g7,g5];exact am6 _ g3
   have hst:=run_storeCells_at P b' off e Y.cells.toList 0 C w g2 (by rw [aq7];omega) h1c
   simp only [aq9] at hst
   have hw:=i.Tj (off:=off) (vs:=z.cells) (U:=Y.cells.toList) hid h4' g2 (by omega) hU (fun j u hu=>by
    obtain⟨a1,a2⟩:=c2 j u hu
    rw [ad9,ah1]
    rw [ad1] at a2
    exact⟨a1,a2⟩)
   refine⟨_,?_,hw⟩
   have hsz:Y.cells.size=n:=by omega
   simp [Instr.storeAt,Instr.sureAddr,storeVar,mW hn,hsz,hst]
 ·cases hb
end
end
section
open Go Go.RowKit
theorem Inv.Ca {G:Gh}{h:kO}{w:World}(i:Inv G h w) {b k:Nat}{v:Value}(hv:G.H b k=some v):b<w.heap.size:=by
 have:=i.ok b k v hv
 unfold World.cell? at this
 cases hh:w.heap[b]? with
 | none=>simp [hh] at this
 | some o=>exact(Array.getElem?_eq_some_iff.1 hh).1
theorem Inv.EA {G:Gh}{h:kO}{w:World}(i:Inv G h w) {b k:Nat}(hb:w.heap.size≤b):G.H b k=none:=by
 cases hv:G.H b k with
 | none=>rfl
 | some v=>have:=i.Ca hv;omega
theorem zN:∀(vs:List kN) (k:Nat),(mN k vs).1.length=vs.length∧(∀(j:Nat) (b:lN),(mN k vs).2[j]?=some b→b=.front 0 0) ∧
  ∀(j:Nat) (c:kN),(mN k vs).1[j]?=some c→vs[j]?=some c∨(vs[j]?=some (.slice [] .nil)∧∃id,k≤id∧c=.slice [] (.own id)∧(mN k vs).2[id-k]?=some (.front 0 0))
 | [],k=>by simp [mN]
 | v::r,k=>by
  by_cases hv:v=.slice [] .nil
  ·subst hv
   obtain⟨h1,h2,h3⟩:=zN r (k+1)
   simp only [mN]
   refine⟨by simp [h1],?_,?_⟩
   ·intro j b hb
    cases j with
    | zero=>simp at hb;exact hb.symm
    | succ j=>exact h2 j b (by simpa using hb)
   ·intro j c hc
    cases j with
    | zero=>simp at hc;subst hc;exact .inr ⟨rfl,k,al1 _,rfl,by simp⟩
    | succ j =>
     rcases h3 j c (by simpa using hc) with h4 | ⟨h4,id,h5,h6,h7⟩
     ·exact .inl (by simpa using h4)
     ·refine .inr ⟨by simpa using h4,id,by omega,h6,?_⟩
      rw [show id-k=(id-(k+1))+1 by omega]
      simpa using h7
  ·have he:mN k (v::r)=(v::(mN k r).1,(mN k r).2):=by
    rw [mN]
    exact hv
   obtain⟨h1,h2,h3⟩:=zN r k
   rw [he]
   refine⟨by simp [h1],h2,?_⟩
   intro j c hc
   cases j with
   | zero=>simp at hc;subst hc;exact .inl rfl
   | succ j =>
    rcases h3 j c (by simpa using hc) with h4 | ⟨h4,h5⟩
    ·exact .inl (by simpa using h4)
    ·exact .inr ⟨by simpa using h4,h5⟩
section
variable {P:Program}{G:Gh}{h:kO}{w:World}{x y v:kN}{X Y V:Value}
theorem k_.Mz (r:k_ G h (.slice [] .nil) V):V=.slice none 0 0:=by
 cases r with
 | p _ _ hp=>cases hp
 | nil=>rfl
def Gh.add (G:Gh) (n b:Nat):Gh:={ G with mO:=fun i=>if i=n then b else G.mO i,cur:=fun i=>if n<i then .slice none 0 0 else G.cur i }
theorem m_ (w:World) (o:Obj) (k:Nat) (hk:k<w.heap.size):(w.alloc o).heap[k]?=w.heap[k]?:=Below.heap_alloc w o k hk
theorem Inv.new (i:Inv G h w) {n:Nat}{v p:kN}{h':kO}{Z:Value}(t:TypeId) (hb:lR n h v=some (p,h')) (hr:k_ G h v Z) :
  ∃G',Inv G' h' (w.alloc (.cells Z.cells t))∧Ext G h w G' h' (w.alloc (.cells Z.cells t))∧k_ G' h' p (.pointer (some ⟨w.heap.size,0,none⟩))∧Z.cells.size=n:=by
 unfold lR at hb
 simp only [] at hb
 split at hb
 case isFalse=>cases hb
 rename_i hcond
 obtain⟨hlen,hall⟩:=hcond
 simp only [aa9,ap2] at hb
 obtain⟨rfl,rfl⟩:=hb
 obtain⟨c1,c2⟩:=BO hr hall
 obtain⟨t1,t2,t3⟩:=zN v.cells (h.length+1)
 have hsz:Z.cells.size=n:=by omega
 refine⟨G.add h.length w.heap.size,?_⟩
 have key:=i.push (G':=G.add h.length w.heap.size) (ext:=.cells (mN (h.length+1) v.cells).1::(mN (h.length+1) v.cells).2) (w':=w.alloc (.cells Z.cells t))
  rfl rfl rfl (by simp) (fun k hk=>m_ w _ k hk) (fun id hid=>by simp [Gh.add];omega) (fun id hid=>by simp [Gh.add];omega) (fun _ _ _ hh=>hh) (fun _ _ _=>rfl)
  (fun b k v hb hv=>by have:=i.Ca (b:=b) (k:=k) (v:=v) hv;omega)
  (fun j bl hj m=>by
   cases j with
   | zero =>
    simp at hj;subst hj
    refine⟨Z.cells,t,by simp only [Gh.add,aq9,if_true];exact heap_alloc_new w _,by omega,fun k=>by simp only [Gh.add,aq9,if_true];exact i.EA (al1 _),fun j u hu=>?_⟩
    rcases t3 j u hu with h4 | ⟨h4,id,h5,h6,h7⟩
    ·exact⟨(c2 j u h4).1,(c2 j u h4).2.mono m⟩
    ·subst h6
     obtain⟨_,hz⟩:=c2 j _ h4
     have hz:=hz.Mz
     refine⟨rfl,?_⟩
     rw [hz]
     refine .own (t:=0) [] id 0 0 _ (.slice0 none 0) ?_ (al1 _) (by simp) (fun _=>by simp only [Gh.add];rw [if_pos (by omega)])
     rw [af7 (by omega),show id-h.length=(id-(h.length+1))+1 by omega]
     simpa using h7
   | succ j =>
    have hj':=t2 j bl (by simpa using hj)
    subst hj'
    exact .inl ⟨rfl,by simp only [Gh.add];rw [if_pos (by omega)]⟩)
  (fun j bl b hj ho=>by
   cases j with
   | zero=>simp at hj;subst hj;simp only [mF,Gh.add,aq9,if_true,aa9] at ho;omega
   | succ j =>
    have hj':=t2 j bl (by simpa using hj)
    subst hj'
    simp only [mF,Gh.add] at ho
    rw [if_pos (by omega)] at ho
    cases ho)
  (fun j j' bl bl' b hj hj' ho ho'=>by
   have:∀j bl,(lN.cells (mN (h.length+1) v.cells).1::(mN (h.length+1) v.cells).2)[j]?=some bl→mF (G.add h.length w.heap.size) (h.length+j) bl=some b→j=0:=by
    intro j bl hj ho
    cases j with
    | zero=>rfl
    | succ j =>
     have hj':=t2 j bl (by simpa using hj)
     subst hj'
     simp only [mF,Gh.add] at ho
     rw [if_pos (by omega)] at ho
     cases ho
   rw [this j bl hj ho,this j' bl' hj' ho'])
 refine⟨key.1,key.2,?_,hsz⟩
 have hp:=k_.ptr (G:=G.add h.length w.heap.size) (h:=h++.cells (mN (h.length+1) v.cells).1::(mN (h.length+1) v.cells).2) h.length 0
  ⟨.cells (mN (h.length+1) v.cells).1,by simp,by simp⟩
 simpa [Gh.add] using hp
theorem PR {t:TypeId}{n:Nat}{p:kN}{h':kO}(i:Inv G h w) (hb:lR n h x=some (p,h')) (hx:k_ G h x X) :
  ∃V w' G',(Instr.box t X).run P w=.ok V w'∧Inv G' h' w'∧Ext G h w G' h' w'∧k_ G' h' p V:=by
 obtain⟨G',h1,h2,h3,_⟩:=i.new t hb hx
 exact⟨_,_,G',by simp [Instr.box,newVar,newRow,Sem.run_pure],h1,h2,h3⟩
theorem sV {t:TypeId}{z:kN}(hz:p_ P t=some z):∃Z,(zeroValue t).run P w=.ok Z w∧k_ G h z Z:=by
 unfold p_ at hz
 cases hi:P.info? t with
 | none=>simp [hi] at hz
 | some ti =>
  cases hzz:ti.zero with
  | none=>simp [hi,hzz] at hz
  | some Z =>
   simp [hi,hzz] at hz;subst hz
   exact⟨Z,by simp [zeroValue,Go.typeInfo,hi,hzz,Sem.run_pure],vL G h Z⟩
theorem KT {t:TypeId}{n:Nat}{z p:kN}{h':kO}(i:Inv G h w) (hz:p_ P t=some z) (hb:lR n h z=some (p,h')) :
  ∃V w' G',(Instr.alloc t true (.tuple #[])).run P w=.ok V w'∧Inv G' h' w'∧Ext G h w G' h' w'∧k_ G' h' p V:=by
 obtain⟨Z,hz1,hz2⟩:=sV (P:=P) (G:=G) (h:=h) (w:=w) hz
 obtain⟨G',h1,h2,h3,_⟩:=i.new t hb hz2
 refine⟨_,_,G',?_,h1,h2,h3⟩
 simp [Instr.alloc,hz1,newVar,newRow,Sem.run_pure]
end
end
section
open Go Go.RowKit
theorem Ko (off:Nat):∀(us:List Value) (k:Nat) (C:Array Value),off+k+us.length≤C.size →
  ((us.zipIdx k).foldl (fun(cs:Array Value) p=>cs.setIfInBounds (off+p.2) p.1) C)=(C.toList.take (off+k)++us++C.toList.drop (off+k+us.length)).toArray
 | [],k,C,_=>by simp
 | u::us,k,C,hl=>by
  simp only [List.zipIdx_cons,List.foldl_cons]
  rw [Ko off us (k+1) (C.setIfInBounds (off+k) u) (by simp at hl ⊢;omega)]
  congr 1
  have e:=list_seg_step C.toList (off+k) u us (by simp at hl ⊢;omega)
  simpa [Array.toList_setIfInBounds,Nat.add_assoc] using e
section
variable {P:Program}{G:Gh}{h:kO}{w:World}{x y v:kN}{X Y V:Value}
theorem vW (hj:x.nE=false) (hx:k_ G h x X):x.cells.length=X.cells.size∧∀(i:Nat) (u:kN),x.cells[i]?=some u→k_ G h u (X.cells.getD i undef):=by
 by_cases ha:∃cs,x=.agg cs
 ·obtain⟨cs,rfl⟩:=ha
  obtain⟨C,rfl,hl,hr⟩:=hx.vB
  exact⟨hl,hr⟩
 ·have hc:x.cells=[x]:=by cases x <;> simp_all [kN.cells]
  have hX:X.cells=#[X]:=by
   cases hx with
   | p _ _ hp=>cases hp <;> simp_all [kN.nE,Value.cells]
   | own _ _ _ _ _ hp=>cases hp <;> simp [Value.cells]
   | ownv _ _ hp=>cases hp <;> simp [Value.cells]
   | _=>simp_all [Value.cells]
  rw [hc,hX]
  refine⟨rfl,fun i u hu=>?_⟩
  cases i with
  | zero=>simp at hu;subst hu;simpa using hx
  | succ i=>simp at hu
def F4 (G:Gh) (h:kO) (cs:List kN) (C:Array Value):Prop:=cs.length=C.size∧∀(i:Nat) (u:kN),cs[i]?=some u→k_ G h u (C.getD i undef)
theorem F4.put {cs vs:List kN}{C:Array Value}{U:List Value}{off:Nat}(hc:F4 G h cs C) (hle:off+vs.length≤cs.length) (hU:U.length=vs.length)
  (hr:∀(j:Nat) (u:kN),vs[j]?=some u→k_ G h u (U.getD j undef)):F4 G h (kU cs off vs) (C.toList.take off++U++C.toList.drop (off+U.length)).toArray:=by
 obtain⟨h1,h2⟩:=hc
 have hoff:off+U.length≤C.size:=by omega
 refine⟨by rw [qH cs vs off hle];simp;omega,fun j u hu=>?_⟩
 rw [tM cs vs off j hle] at hu
 rw [ad1,rN C U off j hoff]
 split at hu
 ·rename_i hj;rw [if_pos hj];have:=h2 j u hu;rwa [ad1] at this
 ·rename_i hj
  rw [if_neg hj]
  split at hu
  ·rename_i hj2;rw [if_pos (by omega)];have:=hr _ u hu;rwa [ad9] at this
  ·rename_i hj2;rw [if_neg (by omega)];have:=h2 j u hu;rwa [ad1] at this
theorem Ar (place:Nat→Option (Nat×Nat)) (places:List (Nat×Nat)) (hp:∀i p,places[i]?=some p→place i=some p) :
  ∀(parts:List (Nat×kN)) (PS:List (Nat×Value)) (zero:List kN) (Z:Array Value) (r:kN),F4 G h zero Z →
   (parts.map (·.1)=PS.map (·.1))→(∀(j:Nat) a b,parts[j]?=some a→PS[j]?=some b→k_ G h a.2 b.2)→lB zero places parts=some r →
   ∃C cs,Instr.fill place Z PS=some C∧r=.agg cs∧F4 G h cs C
 | [],PS,zero,Z,r,hz,hm,_,hb=>by
  have:PS=[]:=by simpa using hm.symm
  subst this
  simp only [lB,aa9] at hb;subst hb
  exact⟨Z,zero,rfl,rfl,hz⟩
 | (i,u)::rest,[],zero,Z,r,_,hm,_,_=>by simp at hm
 | (i,u)::rest,(i',U)::PS,zero,Z,r,hz,hm,hr,hb=>by
  simp only [List.map_cons,List.cons.injEq] at hm
  obtain⟨rfl,hm⟩:=hm
  simp only [lB] at hb
  split at hb
  ·rename_i off n hpl
   split at hb
   case isFalse=>cases hb
   rename_i hcond
   obtain⟨hj,hn,hle⟩:=hcond
   have hU:k_ G h u U:=hr 0 (i,u) (i,U) rfl rfl
   obtain⟨c1,c2⟩:=vW hj hU
   subst hn
   have hpl':=hp i _ hpl
   have hput:=hz.put (U:=U.cells.toList) hle (by simpa using c1.symm) (fun j a ha=>by
    have:=c2 j a ha
    rw [ad9,ah1]
    rwa [ad1] at this)
   obtain⟨C,cs,e1,e2,e3⟩:=Ar place places hp rest PS _ _ r hput hm (fun j a b ha hb=>hr (j+1) a b (by simpa using ha) (by simpa using hb)) hb
   refine⟨C,cs,?_,e2,e3⟩
   have hzl:zero.length=Z.size:=hz.1
   have hfold:=Ko off U.cells.toList 0 Z (by rw [aq7];omega)
   simp only [aq9] at hfold
   have hsz:U.cells.size=u.cells.length:=c1.symm
   simp only [Instr.fill,hpl',hsz,ne_eq,not_true_eq_false,false_or]
   rw [if_neg (by simp;omega)]
   rw [←Array.foldl_toList,Array.toList_zipIdx,hfold]
   exact e1
  ·cases hb
theorem Jv {t:TypeId}{fs:Array Field}{z r:kN}{places:List (Nat×Nat)}{parts:Array (Nat×Operand)}{f:Operand→kN}{F:Operand→Value}
  (ht:P.underlying t=some (.struct fs)) (hz:p_ P t=some z) (hp:fs.toList.mapM (fun f=>(mX P f.type).map fun n=>(f.offset,n))=some places) (hf:∀o,k_ G h (f o) (F o))
  (hzj:z.nE=false) (hb:lB z.cells places (parts.toList.map fun p=>(p.1,f p.2))=some r) :
  ∃V,(Instr.build t (parts.map fun(i,x)=>(i,F x))).run P w=.ok V w∧k_ G h r V:=by
 obtain⟨Z,hz1,hz2⟩:=sV (P:=P) (G:=G) (h:=h) (w:=w) hz
 have hmap:∀(l:List Field) (ps:List (Nat×Nat)),l.mapM (fun f=>(mX P f.type).map fun n=>(f.offset,n))=some ps →
   (l.mapM (fun f=>(Prod.mk f.offset <$> Go.sizeOf f.type:Sem (Nat×Nat)))).run P w=.ok ps w:=by
  intro l
  induction l with
  | nil=>intro ps hps;simp at hps;subst hps;simp [Sem.run_pure]
  | cons f l ih =>
   intro ps hps
   simp only [List.mapM_cons,Option.bind_eq_bind,aa6] at hps
   obtain⟨a,ha,bs,hbs,hps⟩:=hps
   cases hs:mX P f.type with
   | none=>simp [hs] at ha
   | some n =>
    simp [hs] at ha;subst ha
    simp only [Option.pure_def,aa9] at hps;subst hps
    simp only [List.mapM_cons,map_eq_pure_bind] at ih ⊢
    simp only [Sem.run_bind,mW hs,Sem.run_pure,Result.andThen_ok,ih bs hbs]
 have hmapA:(fs.mapM (fun f=>(Prod.mk f.offset <$> Go.sizeOf f.type:Sem (Nat×Nat)))).run P w=.ok places.toArray w:=by
  rw [Array.mapM_eq_mapM_toList]
  have:=hmap fs.toList places hp
  simp only [map_eq_pure_bind] at this
  simp only [map_eq_pure_bind,Sem.run_bind,this,Result.andThen_ok,Sem.run_pure]
 obtain⟨C,cs,e1,rfl,e3⟩:=Ar (G:=G) (h:=h) (fun i=>places.toArray[i]?) places (by simp) _ (parts.toList.map fun p=>(p.1,F p.2)) z.cells Z.cells r (vW hzj hz2)
  (by simp) (fun j a b ha hb=>by
   simp only [ah3,ad2] at ha hb
   obtain⟨p,hp1,rfl⟩:=ha
   obtain⟨q,hq1,rfl⟩:=hb
   rw [hp1] at hq1;cases hq1
   exact hf _) hb
 refine⟨.agg C,?_,.agg _ _ e3.1 e3.2⟩
 simp only [List.getElem?_toArray] at e1
 simp [Instr.build,hz1,run_underlying ht,hmapA,e1,Sem.run_pure]
theorem KV {t e:TypeId}{len n:Nat}{z r:kN}{parts:Array (Nat×Operand)}{f:Operand→kN}{F:Operand→Value}
  (ht:P.underlying t=some (.array len e)) (hz:p_ P t=some z) (hn:mX P e=some n) (hf:∀o,k_ G h (f o) (F o))
  (hzj:z.nE=false) (hb:lB z.cells ((ar2 len).map fun i=>(i*n,n)) (parts.toList.map fun p=>(p.1,f p.2))=some r) :
  ∃V,(Instr.build t (parts.map fun(i,x)=>(i,F x))).run P w=.ok V w∧k_ G h r V:=by
 obtain⟨Z,hz1,hz2⟩:=sV (P:=P) (G:=G) (h:=h) (w:=w) hz
 obtain⟨C,cs,e1,rfl,e3⟩:=Ar (G:=G) (h:=h) (fun i=>some (i*n,n)) ((ar2 len).map fun i=>(i*n,n)) (fun i p hp=>by
   simp only [ah3,ad2] at hp
   obtain⟨a,ha,rfl⟩:=hp
   have:=(ad0.1 ha).2
   simp at this;rw [this]) _ (parts.toList.map fun p=>(p.1,F p.2)) z.cells Z.cells r (vW hzj hz2)
  (by simp) (fun j a b ha hb=>by
   simp only [ah3,ad2] at ha hb
   obtain⟨p,hp1,rfl⟩:=ha
   obtain⟨q,hq1,rfl⟩:=hb
   rw [hp1] at hq1;cases hq1
   exact hf _) hb
 refine⟨.agg C,?_,.agg _ _ e3.1 e3.2⟩
 simp [Instr.build,hz1,run_underlying ht,mW hn,e1,Sem.run_pure]
theorem wC {c c' : kN} {V : Value} (hp : c.Pa = some c') (hr : k_ G h c V) : oL G.H c' V ∧ c'.lS = true := by
  unfold kN.Pa at hp
  split at hp <;> simp only [aa9, reduceCtorEq] at hp <;> subst hp
  all_goals first
    | exact ⟨hr.uB, rfl⟩
    | (refine ⟨?_, rfl⟩; cases hr with | p _ _ h => exact h)
    | (refine ⟨?_, rfl⟩
       cases hr with
       | p _ _ h => exact h
       | func f first cap F C hlf hlc hf hc =>
         have h1 : F = #[] := Array.eq_empty_of_size_eq_zero hlf.symm
         have h2 : C = #[] := Array.eq_empty_of_size_eq_zero hlc.symm
         subst h1; subst h2; exact .func _)
theorem qU:∀{cs row:List kN},sH cs=some row→row.length=cs.length∧∀(j:Nat) (c:kN),cs[j]?=some c→∃c',row[j]?=some c'∧c.Pa=some c'
 | [],row,hp=>by simp only [sH,aa9] at hp;subst hp;simp
 | v::r,row,hp=>by
  simp only [sH] at hp
  split at hp <;> simp only [aa9,reduceCtorEq] at hp
  rename_i a b ha hb
  subst hp
  obtain⟨h1,h2⟩:=qU hb
  refine⟨by simp [h1],fun j c hc=>?_⟩
  cases j with
  | zero=>simp at hc;subst hc;exact⟨a,rfl,ha⟩
  | succ j=>obtain⟨c',e1,e2⟩:=h2 j c (by simpa using hc);exact⟨c',by simpa using e1,e2⟩
theorem qZ:∀(n sz:Nat) (cs:List kN),n*sz≤cs.length→(rowsOf n sz cs).length=n∧(∀r∈rowsOf n sz cs,r.length=sz) ∧
  ∀(i j:Nat) (row:List kN) (c:kN),(rowsOf n sz cs)[i]?=some row→row[j]?=some c→cs[i*sz+j]?=some c
 | 0,sz,cs,_=>by simp [rowsOf]
 | n+1,sz,cs,hl=>by
  have hl':n*sz≤(cs.drop sz).length:=by rw [List.length_drop];rw [ar1] at hl;omega
  obtain⟨h1,h2,h3⟩:=qZ n sz (cs.drop sz) hl'
  simp only [rowsOf]
  have hsz:(cs.take sz).length=sz:=by rw [al4];rw [ar1] at hl;omega
  refine⟨by simp [h1],?_,?_⟩
  ·intro r hr
   rcases List.mem_cons.1 hr with rfl | hr
   ·exact hsz
   ·exact h2 r hr
  ·intro i j row c hi hj
   cases i with
   | zero =>
    simp at hi;subst hi
    rw [ah8] at hj
    split at hj
    ·simpa using hj
    ·cases hj
   | succ i =>
    have:=h3 i j row c (by simpa using hi) hj
    rw [ah9] at this
    rw [show(i+1)*sz+j=sz+(i*sz+j) by rw [ar1];omega]
    exact this
theorem B0 {H:Nat→Nat→Option Value}{n sz b off cap:Nat}{row:List kN}{F:Nat→Value}(hl:n*sz≤row.length) (hc:n≤cap)
  (hH:∀(j:Nat) (c:kN),row[j]?=some c→j<n*sz→H b (off+j)=some (F j)∧oL H c (F j)∧c.lS=true) :
  oL H (.slice (rowsOf n sz row) .no) (.slice (some ⟨b,off,none⟩) n cap):=by
 obtain⟨h1,h2,h3⟩:=qZ n sz row hl
 have hb:∀(i j:Nat) (r:List kN) (c:kN),(rowsOf n sz row)[i]?=some r→r[j]?=some c→row[i*sz+j]?=some c∧i*sz+j<n*sz:=by
  intro i j r c hi hj
  refine⟨h3 i j r c hi hj,?_⟩
  have hi':i<n:=by rw [←h1];exact(ad0.1 hi).1
  have hj':j<sz:=by rw [←h2 r (ae0 hi)];exact(ad0.1 hj).1
  calc i*sz+j<i*sz+sz:=by omega
   _=(i+1)*sz:=by rw [ar1];omega
   _≤n*sz:=am6 _ hi'
 have:=oL.slice (H:=H) (rowsOf n sz row) b off cap sz F h2 (by rw [h1];exact hc)
  (fun i j r c hi hj=>by obtain⟨a1,a2⟩:=hb i j r c hi hj;exact(hH _ c a1 a2).1)
  (fun i j r c hi hj=>by obtain⟨a1,a2⟩:=hb i j r c hi hj;exact(hH _ c a1 a2).2.2)
  (fun i j r c hi hj=>by obtain⟨a1,a2⟩:=hb i j r c hi hj;exact(hH _ c a1 a2).2.1)
 rwa [h1] at this
end
end
section
open Go Go.RowKit
section
variable {P:Program}{G:Gh}{h:kO}{w:World}{x y v:kN}{X Y V:Value}
def Gh.qE (G:Gh) (n b:Nat) (C:Array Value) (V:Value):Gh :=
 {G with H:=fun c k=>if c=b then C[k]? else G.H c k,cur:=fun i=>if i=n then V else G.cur i }
theorem Inv.newRow (i:Inv G h w) {len sz:Nat}{cs row:List kN}{C:Array Value}(e:TypeId) (hc:F4 G h cs C) (hp:sH cs=some row) (hl:C.size=len*sz) (hmax:len≤maxLen) (hsz0:0<sz) :
  ∃G',Inv G' (h++[.front len sz]) (w.alloc (.cells C e))∧Ext G h w G' (h++[.front len sz]) (w.alloc (.cells C e)) ∧
   k_ G' (h++[.front len sz]) (.slice (rowsOf len sz row) (.own h.length)) (.slice (some ⟨w.heap.size,0,none⟩) len len):=by
 obtain⟨p1,p2⟩:=qU hp
 obtain⟨c1,c2⟩:=hc
 have hHlt:∀{b k v},G.H b k=some v→b≠w.heap.size:=fun hv=>by have:=i.Ca hv;omega
 refine⟨G.qE h.length w.heap.size C (.slice (some ⟨w.heap.size,0,none⟩) len len),?_⟩
 have hmono:∀b k v,G.H b k=some v→(G.qE h.length w.heap.size C (.slice (some ⟨w.heap.size,0,none⟩) len len)).H b k=some v:=by
  intro b k v hv;simp only [Gh.qE,if_neg (hHlt hv),hv]
 have key:=i.push (G':=G.qE h.length w.heap.size C (.slice (some ⟨w.heap.size,0,none⟩) len len)) (ext:=[.front len sz]) (w':=w.alloc (.cells C e))
  rfl rfl rfl (by simp) (fun k hk=>m_ w _ k hk) (fun id hid=>rfl) (fun id hid=>by simp only [Gh.qE];rw [if_neg (by omega)]) hmono
  (fun b k hb=>by simp only [Gh.qE];rw [if_neg (by omega)])
  (fun b k v hb hv=>by
   by_cases hbe:b=w.heap.size
   ·subst hbe
    simp only [Gh.qE,if_true] at hv
    rw [cell_of _ _ _ (heap_alloc_new w _),hv]
   ·simp only [Gh.qE,if_neg hbe] at hv
    have:=i.Ca hv;omega)
  (fun j bl hj m=>by
   cases j with
   | zero =>
    simp at hj;subst hj
    refine .inr ⟨w.heap.size,len,C,e,by simp [Gh.qE],heap_alloc_new w _,al1 _,hmax,hl,hsz0,fun k hk=>?_,fun h=>absurd rfl h⟩
    simp only [Gh.qE,if_true]
    exact Array.getElem?_eq_none (by omega)
   | succ j=>simp at hj)
  (fun j bl b hj ho=>by
   cases j with
   | zero=>simp at hj;subst hj;simp only [mF,Gh.qE,aq9,if_true,Value.ownBlock,aa9] at ho;omega
   | succ j=>simp at hj)
  (fun j j' bl bl' b hj hj' _ _=>by
   have h1:j<1:=by simpa using (ad0.1 hj).1
   have h2:j'<1:=by simpa using (ad0.1 hj').1
   omega)
 refine⟨key.1,key.2,?_⟩
 have hlen:(rowsOf len sz row).length=len:=(qZ len sz row (by omega)).1
 refine .own (t:=0) _ h.length len sz _ ?_ (by simp) (by omega) (qZ len sz row (by omega)).2.1 (fun _=>by simp [Gh.qE])
 refine B0 (F:=fun j=>C.getD j undef) (by omega) (al1 _) fun j c hj hlt=>?_
 have hjl:j<C.size:=by omega
 obtain⟨c0,hc0⟩:∃c0,cs[j]?=some c0:=⟨cs[j]'(by omega),ae1 (by omega)⟩
 obtain⟨c',e1,e2⟩:=p2 j c0 hc0
 rw [hj] at e1;cases e1
 obtain⟨q1,q2⟩:=wC e2 (c2 j c0 hc0)
 refine⟨?_,q1.mono hmono,q2⟩
 simp [Gh.qE,ad1,hjl]
theorem BA {zc:List kN}{Z:Array Value}(hz:F4 G h zc Z):∀(len:Nat),F4 G h (ai1 len zc).flatten ((Array.range (len*Z.size)).map fun j=>Z[j%Z.size]!):=by
 intro len
 obtain⟨h1,h2⟩:=hz
 refine⟨by simp [h1],fun j u hu=>?_⟩
 have hlt:j<len*zc.length:=by
  have:=(ad0.1 hu).1
  simpa using this
 have hpos:0<zc.length:=by
  rcases Nat.eq_zero_or_pos zc.length with h0 | h0
  ·rw [h0] at hlt;omega
  ·exact h0
 have hmod:j%zc.length<zc.length:=aq2 _ hpos
 have hflat:∀(n j:Nat),j<n*zc.length→(ai1 n zc).flatten[j]?=zc[j%zc.length]?:=by
  intro n
  induction n with
  | zero=>intro j hj;omega
  | succ n ih =>
   intro j hj
   rw [List.replicate_succ,List.flatten_cons]
   by_cases hjl:j<zc.length
   ·rw [ah6 hjl,Nat.mod_eq_of_lt hjl]
   ·rw [af7 (by omega),ih (j-zc.length) (by rw [ar1] at hj;omega)]
    rw [Nat.mod_eq_sub_mod (a:=j) (by omega)]
 rw [hflat len j hlt] at hu
 have:=h2 _ u hu
 rw [h1] at hlt hmod this
 have e:((Array.range (len*Z.size)).map fun j=>Z[j%Z.size]!).getD j undef=Z.getD (j%Z.size) undef:=by
  simp [ad1,hlt,hmod]
 rw [e];exact this
theorem zT {t e:TypeId}{len sz:Nat}{z:kN}{cs:List kN}{parts:Array (Nat×Operand)}{f:Operand→kN}{F:Operand→Value}
  (ht:P.underlying t=some (.slice e)) (hz:p_ P e=some z) (hn:mX P e=some sz) (hsz:sz≠0) (hle:len*sz≤16777216) (hf:∀o,k_ G h (f o) (F o)) (hzj:z.nE=false) (hzl:z.cells.length=sz)
  (hbd:lB (ai1 len z.cells).flatten ((ar2 len).map fun i=>(i*sz,sz)) (parts.toList.map fun p=>(p.1,f p.2))=some (.agg cs)) :
  ∃C,F4 G h cs C∧C.size=len*sz∧len≤maxLen ∧
   (Instr.buildSlice t len (parts.map fun(i,x)=>(i,F x))).run P w=.ok (.slice (some ⟨w.heap.size,0,none⟩) len len) (w.alloc (.cells C e)):=by
 obtain⟨Z,hz1,hz2⟩:=sV (P:=P) (G:=G) (h:=h) (w:=w) hz
 have hzc:=vW hzj hz2
 have hZs:Z.cells.size=sz:=by rw [←hzl];exact hzc.1.symm
 obtain⟨C,cs',e1,e2,e3⟩:=Ar (G:=G) (h:=h) (fun i=>some (i*sz,sz)) ((ar2 len).map fun i=>(i*sz,sz)) (fun i p hp=>by
   simp only [ah3,ad2] at hp
   obtain⟨a,ha,rfl⟩:=hp
   have:=(ad0.1 ha).2
   simp at this;rw [this]) _ (parts.toList.map fun p=>(p.1,F p.2)) _ _ _ (BA hzc len)
  (by simp) (fun j a b ha hb=>by
   simp only [ah3,ad2] at ha hb
   obtain⟨p,hp1,rfl⟩:=ha
   obtain⟨q,hq1,rfl⟩:=hb
   rw [hp1] at hq1;cases hq1
   exact hf _) hbd
 cases e2
 have hlen:∀(places:List (Nat×Nat)) (parts:List (Nat×kN)) (zc:List kN) (r:kN),lB zc places parts=some r→∃cs,r=.agg cs∧cs.length=zc.length:=by
  intro places parts
  induction parts with
  | nil=>intro zc r hr;simp only [lB,aa9] at hr;exact⟨zc,hr.symm,rfl⟩
  | cons p parts ih =>
   intro zc r hr
   simp only [lB] at hr
   split at hr
   ·split at hr
    case isFalse=>cases hr
    rename_i hc
    obtain⟨cs,e1,e2⟩:=ih _ _ hr
    refine⟨cs,e1,e2.trans ?_⟩
    exact qH _ _ _ (by obtain⟨_,h2,h3⟩:=hc;omega)
   ·cases hr
 obtain⟨cs2,e4,e5⟩:=hlen _ _ _ _ hbd
 cases e4
 have hCs:C.size=len*sz:=by
  rw [←e3.1,e5];simp [hzl]
 refine⟨C,e3,hCs,by
  have:len≤len*sz:=Nat.le_mul_of_pos_right _ (by omega)
  simp only [maxLen];omega,?_⟩
 have hnle:¬(len*sz > 2^24):=by omega
 rw [hZs] at e1
 by_cases h0:len*sz=0
 ·have hl0:len=0:=by
   rcases Nat.mul_eq_zero.1 h0 with h1 | h1
   ·exact h1
   ·exact absurd h1 hsz
  subst hl0
  have hE:∀g:Nat→Value,Array.map g (Array.range 0)=#[]:=fun g=>Array.eq_empty_of_size_eq_zero (by simp)
  simp only [Nat.zero_mul,hE] at e1
  simp [Instr.buildSlice,run_underlying ht,mW hn,hE,e1,newRow,Sem.run_pure]
 ·simp [Instr.buildSlice,run_underlying ht,mW hn,hnle,h0,hz1,hZs,e1,newRow,Sem.run_pure]
theorem A_ {t e:TypeId}{len sz:Nat}{z:kN}{rows:List (List kN)}{parts:Array (Nat×Operand)}{f:Operand→kN}{F:Operand→Value}
  (ht:P.underlying t=some (.slice e)) (hz:p_ P e=some z) (hn:mX P e=some sz) (hsz:sz≠0) (hle:len*sz≤16777216) (hf:∀o,k_ G h (f o) (F o)) (hzj:z.nE=false)
  (hb:BL len sz z.cells (parts.toList.map fun p=>(p.1,f p.2))=some rows) :
  ∃cs row C,sH cs=some row∧rows=rowsOf len sz row∧F4 G h cs C∧C.size=len*sz∧len≤maxLen ∧
   (Instr.buildSlice t len (parts.map fun(i,x)=>(i,F x))).run P w=.ok (.slice (some ⟨w.heap.size,0,none⟩) len len) (w.alloc (.cells C e)):=by
 unfold BL at hb
 split at hb
 ·rename_i cs hbd
  split at hb
  ·rename_i row hrow
   split at hb
   case isFalse=>cases hb
   rename_i hcond
   obtain⟨hzl,hall⟩:=hcond
   simp only [aa9] at hb
   subst hb
   obtain⟨C,e3,hCs,hm,hrun⟩:=zT (G:=G) (h:=h) (w:=w) ht hz hn hsz hle hf hzj hzl hbd
   exact⟨cs,row,C,hrow,rfl,e3,hCs,hm,hrun⟩
  ·cases hb
 ·cases hb
theorem De {t e:TypeId}{len sz:Nat}{z r:kN}{h':kO}{parts:Array (Nat×Operand)}{f:Operand→kN}{F:Operand→Value}
  (i:Inv G h w) (ht:P.underlying t=some (.slice e)) (hz:p_ P e=some z) (hn:mX P e=some sz) (hsz:sz≠0) (hle:len*sz≤16777216) (hf:∀o,k_ G h (f o) (F o)) (hzj:z.nE=false)
  (hb:lE len sz z.cells (parts.toList.map fun p=>(p.1,f p.2)) h=some (r,h')) :
  ∃V w' G',(Instr.buildSlice t len (parts.map fun(i,x)=>(i,F x))).run P w=.ok V w'∧Inv G' h' w'∧Ext G h w G' h' w'∧k_ G' h' r V:=by
 unfold lE at hb
 split at hb
 ·rename_i rows hrows
  simp only [aa9,ap2] at hb
  obtain⟨rfl,rfl⟩:=hb
  obtain⟨cs,row,C,h1,rfl,h3,h4,h5,h6⟩:=A_ (G:=G) (h:=h) (w:=w) ht hz hn hsz hle hf hzj hrows
  obtain⟨G',g1,g2,g3⟩:=i.newRow e h3 h1 h4 h5 (by omega)
  exact⟨_,_,G',h6,g1,g2,g3⟩
 ·cases hb
end
end
section
open Go Go.RowKit
theorem Inv.drew {G:Gh}{h:kO}{w:World}(i:Inv G h w):Inv G h w.drew:=⟨i.ok,fun id bl hb=>by have:=i.mO id bl hb;cases bl <;> exact this,i.inj⟩
theorem Ext.drew (G:Gh) (h:kO) (w:World):Ext G h w G h w.drew :=
 ⟨rfl,rfl,rfl,al1 _,fun _ _ _=>⟨rfl,fun _=>rfl⟩,fun _ _ _ h=>h,fun _ _ h _=>h,fun id bl hb=>⟨bl,hb,Kind.refl G id bl⟩⟩
section
variable {P:Program}{G:Gh}{h:kO}{w:World}{x y v:kN}{X Y V:Value}
structure Src (G:Gh) (h:kO) (w:World) (sz:Nat) (rows:List (List kN)) (X:Value) (a:Option Addr) (news:List Value):Prop where
 form:∃cap,X=.slice a rows.length cap
 len:news.length=rows.length*sz
 rlen:∀r∈rows,r.length=sz
 at_:∀(j:Nat) u,news[j]?=some u→∃ad,a=some ad∧w.cell? (ad.add j)=some u
 rel:∀(i j:Nat) (row:List kN) (c:kN),rows[i]?=some row→row[j]?=some c→∃u,news[i*sz+j]?=some u∧oL G.H c u∧c.lS=true
theorem xH {sz : Nat} {rows : List (List kN)} (i : Inv G h w) (hb : tH sz h x = some rows) (hx : k_ G h x X) : ∃ a news, Src G h w sz rows X a news := by
  unfold tH at hb
  split at hb
  · rename_i rows' tok
    split at hb
    case isFalse => cases hb
    rename_i hall
    simp only [aa9] at hb; subst hb
    have hrl : ∀ r ∈ rows', r.length = sz := fun r hr => by simpa using al0.1 hall r hr
    have hp := hx.uB
    cases hp with
    | slice0 a cap => exact ⟨a, [], ⟨cap, rfl⟩, by simp, by simp, by simp, by simp⟩
    | slice rows b off cap sz' F hr hc hH hk hV =>
      have hszz : 0 < rows'.length → sz' = sz := fun h0 => by
        have hm : rows'[0]? = some rows'[0] := ae1 h0
        rw [← hr _ (ae0 hm), hrl _ (ae0 hm)]
      refine ⟨some ⟨b, off, none⟩, (ar2 (rows'.length * sz)).map F, ⟨cap, rfl⟩, by simp, hrl, ?_, ?_⟩
      · intro j u hu
        have hj : j < rows'.length * sz := by simpa using (ad0.1 hu).1
        have hpos : 0 < sz := by rcases Nat.eq_zero_or_pos sz with h0 | h0; · rw [h0] at hj; omega
                                 · exact h0
        have hrow : j / sz < rows'.length := (Nat.div_lt_iff_lt_mul hpos).2 hj
        have h1 : rows'[j / sz]? = some rows'[j / sz] := ae1 hrow
        have hl := hrl _ (ae0 h1)
        have h2 : rows'[j / sz][j % sz]? = some (rows'[j / sz][j % sz]'(by rw [hl]; exact aq2 _ hpos)) := ae1 _
        have hs' := hszz (Nat.lt_of_le_of_lt (Nat.zero_le _) hrow)
        subst hs'
        have h3 := hH _ _ _ _ h1 h2
        rw [show j / sz' * sz' + j % sz' = j by rw [Nat.mul_comm]; exact Nat.div_add_mod j sz'] at h3
        refine ⟨_, rfl, ?_⟩
        rw [add_plain, i.ok _ _ _ h3]
        simp [hj] at hu
        rw [hu]
      · intro i' j row c h1 h2
        have hl := hrl _ (ae0 h1)
        have hi' : i' < rows'.length := (ad0.1 h1).1
        have hj' : j < sz := by rw [← hl]; exact (ad0.1 h2).1
        have hs' := hszz (by omega)
        subst hs'
        refine ⟨F (i' * sz' + j), ?_, hV _ _ _ _ h1 h2, hk _ _ _ _ h1 h2⟩
        have : i' * sz' + j < rows'.length * sz' := by
          calc i' * sz' + j < i' * sz' + sz' := by omega
            _ = (i' + 1) * sz' := by rw [ar1]; omega
            _ ≤ rows'.length * sz' := am6 _ hi'
        simp [this]
  · rename_i id off len sz'
    cases hgb : pM h id with
    | none => simp [hgb] at hb
    | some cs =>
      have hid := FP hgb
      simp only [hgb] at hb
      split at hb
      case isFalse => cases hb
      rename_i hcond
      obtain ⟨rfl, hle⟩ := hcond
      split at hb <;> simp only [aa9, reduceCtorEq] at hb
      rename_i row hrow
      subst hb
      obtain ⟨a, cap, rfl, hlc, ha⟩ := hx.vZ
      obtain ⟨C, e, h1, h2, h3, h4⟩ := i.mO id _ hid
      obtain ⟨p1, p2⟩ := qU hrow
      have hdl : ((cs.drop off).take (len * sz')).length = len * sz' := by rw [al4, List.length_drop]; omega
      rw [hdl] at p1
      obtain ⟨q1, q2, q3⟩ := qZ len sz' row (by omega)
      refine ⟨a, (C.toList.drop off).take (len * sz'), ⟨cap, by rw [q1]⟩, by rw [q1, al4, List.length_drop, aq7]; omega, q2, ?_, ?_⟩
      · intro j u hu
        rw [ah8] at hu
        split at hu
        · rename_i hj
          have hpos : 0 < len := by rcases Nat.eq_zero_or_pos len with h0 | h0; · rw [h0] at hj; omega
                                    · exact h0
          obtain ⟨rfl, _⟩ := ha hpos
          refine ⟨_, rfl, ?_⟩
          rw [add_plain, cell_of w _ _ h1]
          rw [ah9, ah1] at hu
          exact hu
        · cases hu
      · intro i' j r c hi hj
        have hrow' := q3 i' j r c hi hj
        have hlt : i' * sz' + j < len * sz' := by
          have := (ad0.1 hrow').1; omega
        have hget : ∃ c0, ((cs.drop off).take (len * sz'))[i' * sz' + j]? = some c0 := ⟨_, ae1 (by omega)⟩
        obtain ⟨c0, hc0⟩ := hget
        obtain ⟨c', e1, e2⟩ := p2 _ c0 hc0
        rw [hrow'] at e1; cases e1
        have hc1 : cs[off + (i' * sz' + j)]? = some c0 := by
          rw [ah8, if_pos hlt, ah9] at hc0; exact hc0
        obtain ⟨_, hrel⟩ := h4 _ c0 hc1
        obtain ⟨z1, z2⟩ := wC e2 hrel
        have hCl : off + (i' * sz' + j) < C.size := by rw [h2]; exact (ad0.1 hc1).1
        refine ⟨C.getD (off + (i' * sz' + j)) undef, ?_, z1, z2⟩
        rw [ah8, if_pos hlt, ah9, ah1, Array.getElem?_eq_getElem hCl]
        simp [ad1, hCl]
  · rename_i id tot off len sz'
    cases hgb : n6 h id tot with
    | none => simp [hgb] at hb
    | some x0 =>
      have hid := uX hgb
      simp only [hgb] at hb
      split at hb
      case isFalse => cases hb
      rename_i hcond
      obtain ⟨rfl, hle⟩ := hcond
      split at hb <;> simp only [aa9, reduceCtorEq] at hb
      rename_i row hrow
      subst hb
      obtain ⟨b, cap, rfl, hnf, htot, hlc, hv⟩ := hx.s9
      obtain ⟨b', cap', C, e, g1, g2, g3, g4, g5, g6, g7, g8, g9⟩ := i.mO id _ hid
      obtain ⟨l0, cap0, k1, _⟩ := hv (by rw [g1]; rfl)
      rw [g1] at k1
      simp only [Value.slice.injEq, aa9, Addr.mk.injEq] at k1
      obtain ⟨⟨rfl, _⟩, _, rfl⟩ := k1
      have hcl : x0.2.length ≤ C.size := by rw [g7, g5]; exact am6 _ g3
      obtain ⟨p1, p2⟩ := qU hrow
      have hdl : ((x0.2.drop off).take (len * sz')).length = len * sz' := by rw [al4, List.length_drop]; omega
      rw [hdl] at p1
      obtain ⟨q1, q2, q3⟩ := qZ len sz' row (by omega)
      refine ⟨some ⟨b', off, none⟩, (C.toList.drop off).take (len * sz'), ⟨cap, by rw [q1]⟩, by rw [q1, al4, List.length_drop, aq7]; omega, q2, ?_, ?_⟩
      · intro j u hu
        rw [ah8] at hu
        split at hu
        · refine ⟨_, rfl, ?_⟩
          rw [add_plain, cell_of w _ _ g2]
          rw [ah9, ah1] at hu
          exact hu
        · cases hu
      · intro i' j r c hi hj
        have hrow' := q3 i' j r c hi hj
        have hlt : i' * sz' + j < len * sz' := by
          have := (ad0.1 hrow').1; omega
        have hget : ∃ c0, ((x0.2.drop off).take (len * sz'))[i' * sz' + j]? = some c0 := ⟨_, ae1 (by omega)⟩
        obtain ⟨c0, hc0⟩ := hget
        obtain ⟨c', e1, e2⟩ := p2 _ c0 hc0
        rw [hrow'] at e1; cases e1
        have hc1 : x0.2[off + (i' * sz' + j)]? = some c0 := by
          rw [ah8, if_pos hlt, ah9] at hc0; exact hc0
        obtain ⟨_, hrel⟩ := g9 _ c0 hc1
        obtain ⟨z1, z2⟩ := wC e2 hrel
        have hCl : off + (i' * sz' + j) < C.size := by have := (ad0.1 hc1).1; omega
        refine ⟨C.getD (off + (i' * sz' + j)) undef, ?_, z1, z2⟩
        rw [ah8, if_pos hlt, ah9, ah1, Array.getElem?_eq_getElem hCl]
        simp [ad1, hCl]
  · cases hb
theorem Src.one {sz : Nat} {rows : List (List kN)} {a : Option Addr} {news : List Value} (s : Src G h w sz rows X a news) : ∀ u ∈ news, u.oneCell' = true := by
  intro u hu
  obtain ⟨j, hj⟩ := List.getElem?_of_mem hu
  have hjl : j < rows.length * sz := by rw [← s.len]; exact (ad0.1 hj).1
  have hpos : 0 < sz := by rcases Nat.eq_zero_or_pos sz with h0 | h0; · rw [h0] at hjl; omega
                           · exact h0
  have hrow : j / sz < rows.length := (Nat.div_lt_iff_lt_mul hpos).2 hjl
  have h1 : rows[j / sz]? = some rows[j / sz] := ae1 hrow
  have hl := s.rlen _ (ae0 h1)
  have h2 : rows[j / sz][j % sz]? = some (rows[j / sz][j % sz]'(by rw [hl]; exact aq2 _ hpos)) := ae1 _
  obtain ⟨u', e1, e2, e3⟩ := s.rel _ _ _ _ h1 h2
  rw [show j / sz * sz + j % sz = j by rw [Nat.mul_comm]; exact Nat.div_add_mod j sz] at e1
  rw [hj] at e1; cases e1
  exact (e2.BU e3).1
theorem Ik {H:Nat→Nat→Option Value}{rows:List (List kN)}{sz b cap:Nat}{all:List Value}(hr:∀r∈rows,r.length=sz) (hc:rows.length≤cap)
  (hH:∀(k:Nat) u,all[k]?=some u→H b k=some u)
  (hrel:∀(i j:Nat) (row:List kN) (c:kN),rows[i]?=some row→row[j]?=some c→∃u,all[i*sz+j]?=some u∧oL H c u∧c.lS=true) :
  oL H (.slice rows .no) (.slice (some ⟨b,0,none⟩) rows.length cap):=by
 refine .slice rows b 0 cap sz (fun k=>all.getD k undef) hr hc ?_ ?_ ?_
 ·intro i j row c h1 h2
  obtain⟨u,e1,_⟩:=hrel i j row c h1 h2
  rw [Nat.zero_add,hH _ u e1,ad9,e1];rfl
 ·intro i j row c h1 h2;obtain⟨u,_,_,e3⟩:=hrel i j row c h1 h2;exact e3
 ·intro i j row c h1 h2
  obtain⟨u,e1,e2,_⟩:=hrel i j row c h1 h2
  rw [ad9,e1];exact e2
theorem SR {H:Nat→Nat→Option Value}{A B:List (List kN)}{sz:Nat}{xs ys:List Value}(hxl:xs.length=A.length*sz) (hA:∀r∈A,r.length=sz)
  (h1:∀(i j:Nat) (row:List kN) (c:kN),A[i]?=some row→row[j]?=some c→∃u,xs[i*sz+j]?=some u∧oL H c u∧c.lS=true)
  (h2:∀(i j:Nat) (row:List kN) (c:kN),B[i]?=some row→row[j]?=some c→∃u,ys[i*sz+j]?=some u∧oL H c u∧c.lS=true) :
  ∀(i j:Nat) (row:List kN) (c:kN),(A++B)[i]?=some row→row[j]?=some c→∃u,(xs++ys)[i*sz+j]?=some u∧oL H c u∧c.lS=true:=by
 intro i j row c hi hj
 by_cases hlt:i<A.length
 ·rw [ah6 hlt] at hi
  obtain⟨u,e1,e2⟩:=h1 i j row c hi hj
  exact⟨u,by rw [ah6 (ad0.1 e1).1];exact e1,e2⟩
 ·rw [af7 (by omega)] at hi
  obtain⟨u,e1,e2⟩:=h2 _ j row c hi hj
  refine⟨u,?_,e2⟩
  have:A.length*sz≤i*sz:=am6 _ (by omega)
  rw [af7 (by omega),hxl,←e1]
  congr 1
  rw [Nat.sub_mul];omega
theorem Inv.grow (i:Inv G h w) {id n n' sz sz' t t' bb cap':Nat}{all:List Value}{C':Array Value}{e':TypeId}{w':World}(hid:h[id]?=some (.front n sz t)) (hnn:n<n') (hsz:0<n→sz'=sz)
  (os:w'.os=w.os) (tape:w'.tape=w.tape) (output:w'.output=w.output) (size:w.heap.size≤w'.heap.size)
  (heap:∀k,k<w.heap.size→(k=bb→(G.cur id).ownBlock≠some k)→(k=bb→False)→w'.heap[k]?=w.heap[k]?)
  (hbb:(w.heap.size≤bb)∨(G.cur id).ownBlock=some bb)
  (hC:w'.heap[bb]?=some (.cells C' e' (0,0))) (hcap:n'≤cap') (hmax:cap'≤maxLen) (hCs:C'.size=cap'*sz')
  (hsz0:0<sz') (hall:all.length=n'*sz') (hC':∀(k:Nat) u,all[k]?=some u→C'[k]?=some u)
  (hold:∀k v,G.H bb k=some v→all[k]?=some v) (htt:t'≠0→e'+1=t') :
  ∃G',Inv G' (h.set id (.front n' sz' t')) w'∧Ext G h w G' (h.set id (.front n' sz' t')) w'∧(∀b k v,G.H b k=some v→G'.H b k=some v) ∧
   (∀(k:Nat) u,all[k]?=some u→G'.H bb k=some u)∧G'.cur id=.slice (some ⟨bb,0,none⟩) n' cap':=by
 let G':Gh:={ G with H:=fun b k=>if b=bb then all[k]? else G.H b k,cur:=fun j=>if j=id then .slice (some ⟨bb,0,none⟩) n' cap' else G.cur j }
 have hmono:∀b k v,G.H b k=some v→G'.H b k=some v:=by
  intro b k v hv
  show(if b=bb then all[k]? else G.H b k)=some v
  by_cases hb:b=bb
  ·subst hb;rw [if_pos rfl];exact hold k v hv
  ·rw [if_neg hb];exact hv
 have key:=i.step (G':=G') id (.front n sz t) (.front n' sz' t') hid os tape output size
  (fun k hk hne=>heap k hk (fun _=>hne) (fun e=>by
   subst e
   rcases hbb with h1 | h1
   ·omega
   ·exact hne h1))
  (fun j hj=>rfl) (fun j hj=>if_neg hj) hmono
  (fun b k hb hne=>by
   have:b≠bb:=by
    rintro rfl
    rcases hbb with h1 | h1
    ·omega
    ·exact hne h1
   show(if b=bb then all[k]? else G.H b k)=_
   rw [if_neg this])
  (fun b k v hb hv=>by
   change (if b=bb then all[k]? else G.H b k)=some v at hv
   by_cases hbe:b=bb
   ·subst hbe
    rw [if_pos rfl] at hv
    rw [cell_of w' _ _ hC];exact hC' k v hv
   ·rw [if_neg hbe] at hv
    have hlt:=i.Ca hv
    rw [World.cell?_of_block (w:=w) (a:=⟨b,k,none⟩) (heap b hlt (fun e=>absurd e hbe) hbe)]
    exact i.ok b k v hv)
  ⟨by omega,fun e=>by omega,rfl,hsz⟩
  (fun _=>.inr ⟨bb,cap',C',e',if_pos rfl,hC,hcap,hmax,hCs,hsz0,fun k hk=>by
   show(if bb=bb then all[k]? else G.H bb k)=none
   rw [if_pos rfl];exact List.getElem?_eq_none (by omega),htt⟩)
  (fun b hb=>by
   have hb:Value.ownBlock (if id=id then .slice (some ⟨bb,0,none⟩) n' cap' else G.cur id)=some b:=hb
   rw [if_pos rfl] at hb
   simp only [Value.ownBlock,aa9] at hb
   subst hb
   exact hbb)
 exact⟨G',key.1,key.2,hmono,fun k u hu=>by show(if bb=bb then all[k]? else G.H bb k)=some u;rw [if_pos rfl];exact hu,if_pos rfl⟩
end
end
section
open Go Go.RowKit
section
variable {P:Program}{G:Gh}{h:kO}{w:World}{x y v:kN}{X Y V:Value}
theorem Kr (i:Inv G h w) {rows:List (List kN)}{id n sz:Nat}(hx:k_ G h (.slice rows (.own id)) X) {t:Nat}(hid:h[id]?=some (.front n sz t)) (hlen:rows.length=n) :
  X=G.cur id∧(∀r∈rows,r.length=sz)∧((n=0∧G.cur id=.slice none 0 0)∨∃b cap C e,G.cur id=.slice (some ⟨b,0,none⟩) n cap∧w.heap[b]?=some (.cells C e (0,0)) ∧
   n≤cap∧cap≤maxLen∧C.size=cap*sz∧0<sz∧(∀k,n*sz≤k→G.H b k=none) ∧
   (∀(i' j:Nat) (row:List kN) (c:kN),rows[i']?=some row→row[j]?=some c→∃u,(C.toList.take (n*sz))[i'*sz+j]?=some u∧oL G.H c u∧c.lS=true)∧(t≠0→e+1=t)):=by
 cases hx with
 | p _ _ hp=>cases hp
 | ownv _ _ hp hb =>
  obtain⟨b,h1,_,h3⟩:=hb
  rw [hid] at h1;cases h1;exact absurd rfl (h3 _ _ _)
 | own _ _ n' sz' _ hp hf hn hr hc =>
  rw [hid] at hf
  simp only [aa9,lN.front.injEq] at hf
  obtain⟨rfl,rfl,rfl⟩:=hf
  have hX:=hc hlen
  refine⟨hX,hr,?_⟩
  rcases i.mO id _ hid with h1 | ⟨b,cap,C,e,h1,h2,h3,h4,h5,h50,h6,h7⟩
  ·exact .inl h1
  ·refine .inr ⟨b,cap,C,e,h1,h2,h3,h4,h5,h50,h6,fun i' j row c hi hj=>?_,h7⟩
   rw [hX,h1] at hp
   generalize hV:Value.slice (some ⟨b,0,none⟩) n cap=V0 at hp
   cases hp with
   | slice0 a cap=>simp at hi
   | slice rows b' off cap' sz2 F hr2 hc2 hH hk hV2 =>
    simp only [Value.slice.injEq,aa9,Addr.mk.injEq] at hV
    obtain⟨⟨rfl,rfl,_⟩,hn',rfl⟩:=hV
    have hs:sz2=sz:=by rw [←hr2 row (ae0 hi),hr row (ae0 hi)]
    subst hs
    have hcell:=i.ok _ _ _ (hH i' j row c hi hj)
    rw [cell_of w _ _ h2,Nat.zero_add] at hcell
    have hlt:i'*sz2+j<n*sz2:=by
     have hi':i'<rows.length:=(ad0.1 hi).1
     have hj':j<sz2:=by rw [←hr2 row (ae0 hi)];exact(ad0.1 hj).1
     calc i'*sz2+j<i'*sz2+sz2:=by omega
      _=(i'+1)*sz2:=by rw [ar1];omega
      _≤n*sz2:=am6 _ (by omega)
    refine⟨F (i'*sz2+j),?_,hV2 i' j row c hi hj,hk i' j row c hi hj⟩
    rw [ah8,if_pos hlt,ah1]
    exact hcell
theorem rQ {t ty e:TypeId}{ti:TypeInfo}(ht:P.underlying t=some (.slice e)) (hi:P.info? e=some ti) (a b:Option Addr) (n cap c:Nat) (hn:n≤cap) :
  (Builtin.append_ #[t,t] ty #[.slice a n cap,.slice b 0 c]).run P w=.ok (.slice a n cap) w:=by
 cases a <;> cases b <;> simp [Builtin.append_,run_underlying ht,Go.sizeOf,Go.typeInfo,hi,Builtin.lenOf,Builtin.firstCells,hn,loadCells,loadCellsFrom,storeCells,Sem.run_pure]
theorem Inv.BY (i:Inv G h w):∃G',Inv G' (h++[.front 0 0]) w∧Ext G h w G' (h++[.front 0 0]) w∧G'.cur h.length=.slice none 0 0∧G'.H=G.H:=by
 let G':Gh:={ G with cur:=fun j=>if j=h.length then .slice none 0 0 else G.cur j }
 have key:=i.push (G':=G') (ext:=[.front 0 0]) (w':=w) rfl rfl rfl (al1 _) (fun _ _=>rfl) (fun _ _=>rfl) (fun id hid=>if_neg (by omega)) (fun _ _ _ h=>h) (fun _ _ _=>rfl)
  (fun b k v hb hv=>by have:=i.Ca (b:=b) (k:=k) (v:=v) hv;omega)
  (fun j bl hj m=>by
   cases j with
   | zero=>simp at hj;subst hj;exact .inl ⟨rfl,if_pos rfl⟩
   | succ j=>simp at hj)
  (fun j bl b hj ho=>by
   cases j with
   | zero =>
    simp at hj;subst hj
    have ho:Value.ownBlock (if h.length+0=h.length then .slice none 0 0 else G.cur (h.length+0))=some b:=ho
    rw [if_pos (aq9 _)] at ho;cases ho
   | succ j=>simp at hj)
  (fun j j' bl bl' b hj hj' _ _=>by
   have h1:j<1:=by simpa using (ad0.1 hj).1
   have h2:j'<1:=by simpa using (ad0.1 hj').1
   omega)
 exact⟨G',key.1,key.2,if_pos rfl,rfl⟩
theorem Pb {G':Gh}(hc:G'.cur h.length=.slice none 0 0):k_ G' (h++[.front 0 0]) (.slice [] (.own h.length)) (.slice none 0 0) :=
 .own (t:=0) [] h.length 0 0 _ (.slice0 none 0) (by simp) (al1 _) (by simp) (fun _=>hc.symm)
theorem Ju {t ty e:TypeId}{sz bytes:Nat}{z r:kN}{h':kO}(i:Inv G h w) (ht:P.underlying t=some (.slice e)) (hn:mX P e=some sz) (hby:vV P e=some bytes)
  (hz:p_ P e=some z) (hzj:z.nE=false) (hzl:z.cells.length=sz) (hsz:sz≠0) (hb:rS sz bytes h x y=some (r,h')) (hx:k_ G h x X) (hy:k_ G h y Y) :
  ∃V w' G',(Builtin.append_ #[t,t] ty #[X,Y]).run P w=.ok V w'∧Inv G' h' w'∧Ext G h w G' h' w'∧k_ G' h' r V:=by
 obtain⟨ti,hti,hts,htb,Z,hzz,hZs⟩:∃ti,P.info? e=some ti∧ti.size=sz∧ti.bytes=bytes∧∃Z,ti.zero=some Z∧Z.cells.size=sz:=by
  unfold mX at hn;unfold vV at hby;unfold p_ at hz
  cases hi:P.info? e with
  | none=>simp [hi] at hn
  | some ti =>
   simp [hi] at hn hby hz
   obtain⟨Z,hZ1,hZ2⟩:=hz
   refine⟨ti,rfl,hn,hby,Z,hZ1,?_⟩
   subst hZ2
   rw [←hzl];exact(vW hzj (vL G h Z)).1.symm
 unfold rS at hb
 split at hb
 ·-- the holder of a token
  rename_i rows id new hnew
  obtain⟨a,news,src⟩:=xH i hnew hy
  obtain⟨capY,hYf⟩:=src.form
  split at hb
  ·rename_i n sz0 hid
   split at hb
   case isFalse=>cases hb
   rename_i hcond
   obtain⟨hlen,hszz,hbytes,hsmall⟩:=hcond
   obtain⟨hX,hrl,hcur⟩:=Kr i hx hid hlen
   split at hb
   ·rename_i hm
    simp only [aa9,ap2] at hb
    obtain⟨rfl,rfl⟩:=hb
    refine⟨X,w,G,?_,i,Ext.refl G h w,hx⟩
    rw [hYf,hm]
    rcases hcur with ⟨_,hc⟩ | ⟨b,cap,C,e0,hc,_,hle,_⟩
    ·rw [hX,hc];exact rQ ht hti none a 0 0 capY (al1 _)
    ·rw [hX,hc];exact rQ ht hti _ a n cap capY hle
   ·rename_i hm
    simp only [aa9,ap2] at hb
    obtain⟨rfl,rfl⟩:=hb
    have hposn:0<news.length:=by rw [src.len];exact Nat.mul_pos (by omega) (by omega)
    obtain⟨ad,had,_⟩:=src.at_ 0 _ (ae1 hposn)
    subst had
    have hnews:∀j u,news[j]?=some u→w.cell? (ad.add j)=some u:=fun j u hu=>by
     obtain⟨ad',e1,e2⟩:=src.at_ j u hu;cases e1;exact e2
    have hone:=src.one
    have hnl:news.length=new.length*ti.size:=by rw [hts];exact src.len
    have fin:∀(bb cap':Nat) (xs:List Value) (G':Gh),xs.length=n*sz→cap'≥n+new.length→Cb G h G' (h.set id (.front (n+new.length) sz)) →
      (∀(k:Nat) u,(xs++news)[k]?=some u→G'.H bb k=some u)→G'.cur id=.slice (some ⟨bb,0,none⟩) (n+new.length) cap' →
      (∀(i' j:Nat) (row:List kN) (c:kN),rows[i']?=some row→row[j]?=some c→∃u,xs[i'*sz+j]?=some u∧oL G.H c u∧c.lS=true) →
      (∀r∈rows,r.length=sz) →
      k_ G' (h.set id (.front (n+new.length) sz)) (.slice (rows++new) (.own id)) (.slice (some ⟨bb,0,none⟩) (n+new.length) cap'):=by
     intro bb cap' xs G' hxl hc hm' hH hcur' hcells hrl'
     have hidl:id<h.length:=(ad0.1 hid).1
     have hrl2:∀r∈rows++new,r.length=sz:=fun r hr=>(List.mem_append.1 hr).elim (hrl' r) (src.rlen r)
     have hlen2:(rows++new).length=n+new.length:=by rw [List.length_append,hlen]
     refine .own (t:=0) _ id (n+new.length) sz _ ?_ (by simp [hidl]) (by omega) hrl2 (fun _=>hcur'.symm)
     have:=Ik (H:=G'.H) (rows:=rows++new) (sz:=sz) (b:=bb) (cap:=cap') (all:=xs++news) hrl2 (by omega) hH
      (SR (by rw [hlen];exact hxl) hrl' (fun i' j row c h1 h2=>by obtain⟨u,e1,e2,e3⟩:=hcells i' j row c h1 h2;exact⟨u,e1,e2.mono hm'.hmono,e3⟩)
       (fun i' j row c h1 h2=>by obtain⟨u,e1,e2,e3⟩:=src.rel i' j row c h1 h2;exact⟨u,e1,e2.mono hm'.hmono,e3⟩))
     rwa [hlen2] at this
    rw [hX,hYf]
    rcases hcur with ⟨rfl,hc⟩ | ⟨b,cap,C,e0,hc,hC,hle,hmx,hCs,hs0,hHn,hcells,_⟩
    ·-- nil so far
     rw [hc]
     have hrun:=run_append_nil (P:=P) w t ty e ti Z ht hti hzz ad new.length capY news hnl hnews (by omega) (by omega) (by rw [htb];rw [Nat.zero_add] at hbytes;omega)
     have hcapg:=grownCap_ge w new.length 0 e
     have hcapm:=grownCap_le_maxLen w new.length 0 e (by simp only [maxLen];omega)
     obtain⟨G',g1,g2,g3,g4,g5⟩:=i.grow (id:=id) (n:=0) (n':=0+new.length) (t':=0) (sz:=sz0) (sz':=sz) (bb:=w.heap.size) (cap':=grownCap w new.length 0 e) (all:=news)
      (w':=w.drew.alloc (.cells (news.toArray++Builtin.zeroCells Z.cells (grownCap w new.length 0 e-new.length)) e)) hid (by omega) (by omega) rfl rfl rfl (by simp)
      (fun k hk _ _=>m_ w.drew _ k hk) (.inl (al1 _)) (heap_alloc_new w.drew _) (by omega) hcapm
      (by simp only [Array.size_append,List.size_toArray,size_zeroCells,hZs,src.len,←ar1];congr 1;omega)
      (by omega) (by rw [src.len];simp) (fun k u hu=>by
       rw [aq0 (by simpa using (ad0.1 hu).1)];simpa using hu)
      (fun k v hv=>by have:=i.Ca hv;omega) (fun h=>absurd rfl h)
     refine⟨_,_,G',hrun,g1,g2,?_⟩
     have:=fin w.heap.size (grownCap w new.length 0 e) [] G' (by simp) (by omega) g2.toMono (by simpa using g4) g5 (fun i' j row c h1 _=>by
      have:rows=[]:=List.eq_nil_of_length_eq_zero hlen
      subst this;simp at h1) (fun r hr=>by
      have:rows=[]:=List.eq_nil_of_length_eq_zero hlen
      subst this;cases hr)
     simpa using this
    ·have hs:sz0=sz:=by omega
     rw [hc]
     by_cases hroom:n+new.length≤cap
     ·subst hs
      have hfit:n*ti.size+news.length≤C.size:=by rw [hts,src.len,hCs,←ar1];exact am6 _ hroom
      have hf:=run_firstCells_some (P:=P) w ti.size new.length ad new.length capY news hnl hnews
      have hst:=run_storeCells_at P b (n*ti.size) e0 news 0 C w hC (by simpa using hfit) hone
      simp only [aq9] at hst
      have hrun:(Builtin.append_ #[t,t] ty #[.slice (some ⟨b,0,none⟩) n cap,.slice (some ad) new.length capY]).run P w =
        .ok (.slice (some ⟨b,0,none⟩) (n+new.length) cap) (w.setRow b (C.toList.take (n*ti.size)++news++C.toList.drop (n*ti.size+news.length)).toArray):=by
       simp [Builtin.append_,run_underlying ht,Go.sizeOf,Go.typeInfo,hti,Builtin.lenOf,hroom,hf,Addr.add_lit,hst]
      rw [hts] at hrun hfit
      have hxl:(C.toList.take (n*sz0)).length=n*sz0:=by rw [al4,aq7];omega
      obtain⟨G',g1,g2,g3,g4,g5⟩:=i.grow (id:=id) (n:=n) (n':=n+new.length) (t':=0) (sz:=sz0) (sz':=sz0) (bb:=b) (cap':=cap) (all:=C.toList.take (n*sz0)++news)
       (C':=(C.toList.take (n*sz0)++news++C.toList.drop (n*sz0+news.length)).toArray) (e':=e0)
       (w':=w.setRow b (C.toList.take (n*sz0)++news++C.toList.drop (n*sz0+news.length)).toArray) hid (by omega) (fun _=>rfl) (by simp) (by simp) (by simp) (by simp)
       (fun k hk _ hne=>setRow_other w b k _ hne) (.inr (by rw [hc];rfl)) (setRow_heap w b C _ e0 _ hC) hroom hmx
       (by simp;omega) hs0
       (by rw [List.length_append,hxl,src.len,ar1]) (fun k u hu=>by
        rw [List.getElem?_toArray,ah6 (ad0.1 hu).1];exact hu)
       (fun k v hv=>by
        have hk:k<n*sz0:=Classical.byContradiction fun hk=>by rw [hHn k (by omega)] at hv;cases hv
        have:=i.ok _ _ _ hv
        rw [cell_of w _ _ hC] at this
        rw [ah6 (by omega),ah8,if_pos hk,ah1];exact this) (fun h=>absurd rfl h)
      exact⟨_,_,G',hrun,g1,g2,fin b cap _ G' hxl hroom g2.toMono g4 g5 hcells hrl⟩
     ·subst hs
      have hxl:(C.toList.take (n*sz0)).length=n*sz0:=by
       rw [al4,aq7,hCs]
       have:n*sz0≤cap*sz0:=am6 _ hle
       omega
      have hxc:∀j u,(C.toList.take (n*sz0))[j]?=some u→w.cell? ((⟨b,0,none⟩:Addr).add j)=some u:=by
       intro j u hu
       rw [ah8] at hu
       split at hu
       ·rw [add_plain,cell_of w _ _ hC,Nat.zero_add];rwa [ah1] at hu
       ·cases hu
      have hrun:=run_append_grow (P:=P) w t ty e ti Z ht hti hzz ⟨b,0,none⟩ n cap (C.toList.take (n*sz0)) (by rw [hts];exact hxl) hxc ad new.length capY news hnl hnews (by omega) (by omega)
       (growslice_fits (by omega) (by rw [htb];exact hbytes))
      have hcapg:=grownCap_ge w (n+new.length) cap e
      have hcapm:=grownCap_le_maxLen w (n+new.length) cap e (by simp only [maxLen];omega)
      obtain⟨G',g1,g2,g3,g4,g5⟩:=i.grow (id:=id) (n:=n) (n':=n+new.length) (t':=0) (sz:=sz0) (sz':=sz0) (bb:=w.heap.size) (cap':=grownCap w (n+new.length) cap e) (all:=C.toList.take (n*sz0)++news)
       (w':=w.drew.alloc (.cells ((C.toList.take (n*sz0)).toArray++news.toArray++Builtin.zeroCells Z.cells (grownCap w (n+new.length) cap e-(n+new.length))) e)) hid (by omega)
       (fun _=>rfl) rfl rfl rfl (by simp)
       (fun k hk _ _=>m_ w.drew _ k hk) (.inl (al1 _)) (heap_alloc_new w.drew _) (by omega) hcapm
       (by simp only [Array.size_append,List.size_toArray,size_zeroCells,hZs,src.len,hxl,←ar1];congr 1;omega)
       (by omega) (by rw [List.length_append,hxl,src.len,ar1]) (fun k u hu=>by
        have hk:=(ad0.1 hu).1
        rw [aq0 (by simpa using hk),List.append_toArray,List.getElem?_toArray];exact hu)
       (fun k v hv=>by have:=i.Ca hv;omega) (fun h=>absurd rfl h)
      exact⟨_,_,G',hrun,g1,g2,fin w.heap.size _ _ G' hxl (by omega) g2.toMono g4 g5 hcells hrl⟩
  ·cases hb
 ·-- a nil slice without a token
  rename_i new hnew
  obtain⟨a,news,src⟩:=xH i hnew hy
  obtain⟨capY,hYf⟩:=src.form
  have hX:=hx.Mz
  split at hb
  ·rename_i hm
   simp only [aa9,ap2] at hb
   obtain⟨rfl,rfl⟩:=hb
   refine⟨X,w,G,?_,i,Ext.refl G h w,hx⟩
   rw [hYf,hm,hX]
   exact rQ ht hti none a 0 0 capY (al1 _)
  ·rename_i hm
   split at hb
   case isFalse=>cases hb
   rename_i hcond
   obtain⟨hbytes,hsmall⟩:=hcond
   simp only [aa9,ap2] at hb
   obtain⟨rfl,rfl⟩:=hb
   have hposn:0<news.length:=by rw [src.len];exact Nat.mul_pos (by omega) (by omega)
   obtain⟨ad,had,_⟩:=src.at_ 0 _ (ae1 hposn)
   subst had
   have hnews:∀j u,news[j]?=some u→w.cell? (ad.add j)=some u:=fun j u hu=>by
    obtain⟨ad',e1,e2⟩:=src.at_ j u hu;cases e1;exact e2
   have hnl:news.length=new.length*ti.size:=by rw [hts];exact src.len
   obtain⟨G1,i1,x1,hc1,hH1⟩:=i.BY
   rw [hX,hYf]
   have hrun:=run_append_nil (P:=P) w t ty e ti Z ht hti hzz ad new.length capY news hnl hnews (by omega) (by omega) (by rw [htb];omega)
   have hcapg:=grownCap_ge w new.length 0 e
   have hcapm:=grownCap_le_maxLen w new.length 0 e (by simp only [maxLen];omega)
   obtain⟨G',g1,g2,g3,g4,g5⟩:=i1.grow (id:=h.length) (n:=0) (n':=new.length) (t:=0) (t':=0) (sz:=0) (sz':=sz) (bb:=w.heap.size) (cap':=grownCap w new.length 0 e) (all:=news)
    (w':=w.drew.alloc (.cells (news.toArray++Builtin.zeroCells Z.cells (grownCap w new.length 0 e-new.length)) e)) (by simp) (by omega) (by omega) rfl rfl rfl (by simp)
    (fun k hk _ _=>m_ w.drew _ k hk) (.inl (al1 _)) (heap_alloc_new w.drew _) (by omega) hcapm
    (by simp only [Array.size_append,List.size_toArray,size_zeroCells,hZs,src.len,←ar1];congr 1;omega)
    (by omega) src.len (fun k u hu=>by
     rw [aq0 (by simpa using (ad0.1 hu).1)];simpa using hu)
    (fun k v hv=>by have:=i1.Ca hv;omega) (fun h=>absurd rfl h)
   have hset:(h++[lN.front 0 0]).set h.length (.front new.length sz)=h++[.front new.length sz]:=by simp
   rw [hset] at g1 g2
   refine⟨_,_,G',hrun,g1,x1.trans g2,?_⟩
   have m:=(x1.trans g2).toMono
   refine .own (t:=0) _ h.length new.length sz _ ?_ (by simp) (al1 _) src.rlen (fun _=>g5.symm)
   exact Ik src.rlen hcapg (fun k u hu=>g4 k u hu) (fun i' j row c h1 h2=>by
    obtain⟨u,e1,e2,e3⟩:=src.rel i' j row c h1 h2;exact⟨u,e1,e2.mono m.hmono,e3⟩)
 ·cases hb
end
end
section
open Go Go.RowKit
section
variable {P:Program}{G:Gh}{h:kO}{w:World}{x y v:kN}{X Y V:Value}
theorem Inv.newAt (i:Inv G h w) {id n:Nat}{v p:kN}{h':kO}{Z:Value}(t:TypeId) (hb:q_ id n h v=some (p,h')) (hr:k_ G h v Z) :
  ∃G',Inv G' h' (w.alloc (.cells Z.cells t))∧Ext G h w G' h' (w.alloc (.cells Z.cells t))∧k_ G' h' p (.pointer (some ⟨w.heap.size,0,none⟩))∧Z.cells.size=n:=by
 unfold q_ at hb
 simp only [] at hb
 split at hb
 ·rename_i hid
  split at hb
  case isFalse=>cases hb
  rename_i hcond
  obtain⟨hlen,hall⟩:=hcond
  simp only [aa9,ap2] at hb
  obtain⟨rfl,rfl⟩:=hb
  obtain⟨c1,c2⟩:=BO hr hall
  have hidl:id<h.length:=(ad0.1 hid).1
  let G':Gh:={ G with mO:=fun j=>if j=id then w.heap.size else G.mO j }
  have key:=i.step (G':=G') (w':=w.alloc (.cells Z.cells t)) id .free (.cells v.cells) hid rfl rfl rfl (by simp) (fun k hk _=>m_ w _ k hk) (fun j hj=>if_neg hj) (fun _ _=>rfl)
   (fun _ _ _ hh=>hh) (fun _ _ _ _=>rfl) (fun b k v hb hv=>by
    rcases hb with hb | hb
    ·have:=i.Ca (b:=b) (k:=k) (v:=v) hv;omega
    ·cases hb) trivial
   (fun m=>⟨Z.cells,t,by show(w.alloc _).heap[if id=id then w.heap.size else _]?=_;rw [if_pos rfl];exact heap_alloc_new w _,by omega,
    fun k=>by show G.H (if id=id then w.heap.size else _) k=none;rw [if_pos rfl];exact i.EA (al1 _),fun j u hu=>⟨(c2 j u hu).1,(c2 j u hu).2.mono m⟩⟩)
   (fun b hb=>by
    have hb:some (if id=id then w.heap.size else G.mO id)=some b:=hb
    rw [if_pos rfl] at hb;cases hb;exact .inl (al1 _))
  refine⟨G',key.1,key.2,?_,by omega⟩
  have hp:=k_.ptr (G:=G') (h:=h.set id (.cells v.cells)) id 0 ⟨.cells v.cells,by simp [hidl],by simp⟩
  have he:G'.mO id=w.heap.size:=if_pos rfl
  rwa [he] at hp
 ·cases hb
theorem Cc {t e:TypeId}{id len sz:Nat}{z r:kN}{h':kO}{parts:Array (Nat×Operand)}{f:Operand→kN}{F:Operand→Value}
  (i:Inv G h w) (ht:P.underlying t=some (.slice e)) (hz:p_ P e=some z) (hn:mX P e=some sz) (hsz:sz≠0) (hle:len*sz≤16777216) (hf:∀o,k_ G h (f o) (F o)) (hzj:z.nE=false)
  (hb:qW id len sz z.cells (parts.toList.map fun p=>(p.1,f p.2)) h=some (r,h')) :
  ∃V w' G',(Instr.buildSlice t len (parts.map fun(i,x)=>(i,F x))).run P w=.ok V w'∧Inv G' h' w'∧Ext G h w G' h' w'∧k_ G' h' r V:=by
 unfold qW at hb;cases hb
theorem KU {t:TypeId}{id n:Nat}{p:kN}{h':kO}(i:Inv G h w) (hb:q_ id n h x=some (p,h')) (hx:k_ G h x X) :
  ∃V w' G',(Instr.box t X).run P w=.ok V w'∧Inv G' h' w'∧Ext G h w G' h' w'∧k_ G' h' p V:=by
 obtain⟨G',h1,h2,h3,_⟩:=i.newAt t hb hx
 exact⟨_,_,G',by simp [Instr.box,newVar,newRow,Sem.run_pure],h1,h2,h3⟩
theorem Hm {t:TypeId}{id n:Nat}{z p:kN}{h':kO}(i:Inv G h w) (hz:p_ P t=some z) (hb:q_ id n h z=some (p,h')) :
  ∃V w' G',(Instr.alloc t true (.tuple #[])).run P w=.ok V w'∧Inv G' h' w'∧Ext G h w G' h' w'∧k_ G' h' p V:=by
 obtain⟨Z,hz1,hz2⟩:=sV (P:=P) (G:=G) (h:=h) (w:=w) hz
 obtain⟨G',h1,h2,h3,_⟩:=i.newAt t hb hz2
 refine⟨_,_,G',?_,h1,h2,h3⟩
 simp [Instr.alloc,hz1,newVar,newRow,Sem.run_pure]
end
end
section
open Go Go.RowKit
section
variable {P:Program}{G:Gh}{h:kO}{w:World}{x y v:kN}{X Y V:Value}
theorem EG {t e:TypeId}{sz by_:Nat}{z r:kN}{h':kO}(i:Inv G h w) (ht:P.underlying t=some (.slice e)) (hn:mX P e=some sz) (hby:vV P e=some by_) (hz:p_ P e=some z)
  (hj:z.nE=false) (hl:z.cells.length=sz) (hk:z.cells.all kN.lS=true) (hb:Ai sz by_ z.cells x h=some (r,h')) {k k':IntKind}{n:Int}(hxn:x=.int k n) (hX:X=.int k n) (hY:Y=.int k' n) :
  ∃V w' G',(Instr.makeSlice t X Y).run P w=.ok V w'∧Inv G' h' w'∧Ext G h w G' h' w'∧k_ G' h' r V:=by
 unfold Ai at hb;cases hb
theorem Inv.alR (i:Inv G h w):∃G',Inv G' (h++[.map []]) (w.alloc (.map #[] 0))∧Ext G h w G' (h++[.map []]) (w.alloc (.map #[] 0))∧k_ G' (h++[.map []]) (.map h.length) (.map (some w.heap.size)):=by
 refine⟨{ G with mO:=fun j=>if j=h.length then w.heap.size else G.mO j },?_⟩
 have key:=i.push (G':={ G with mO:=fun j=>if j=h.length then w.heap.size else G.mO j }) (ext:=[.map []]) (w':=w.alloc (.map #[] 0))
  rfl rfl rfl (by simp) (fun k hk=>m_ w _ k hk) (fun id hid=>by show(if id=h.length then _ else _)=_;rw [if_neg (by omega)]) (fun id hid=>rfl) (fun _ _ _ hh=>hh) (fun _ _ _=>rfl)
  (fun b k v hb hv=>by have:=i.Ca (b:=b) (k:=k) (v:=v) hv;omega)
  (fun j bl hj m=>by
   cases j with
   | zero =>
    simp at hj;subst hj
    refine⟨#[],0,by simp only [aq9,if_true];exact(MapKept.heap_alloc w _).1,rfl,fun k=>by simp only [aq9,if_true];exact i.EA (al1 _),by simp,MapKept.stamped_empty 0⟩
   | succ j=>simp at hj)
  (fun j bl b hj ho=>by
   cases j with
   | zero=>simp at hj;subst hj;simp only [mF,aq9,if_true,aa9] at ho;omega
   | succ j=>simp at hj)
  (fun j j' bl bl' b hj hj' _ _=>by
   have h1:j<1:=by simpa using (ad0.1 hj).1
   have h2:j'<1:=by simpa using (ad0.1 hj').1
   omega)
 refine⟨key.1,key.2,?_⟩
 have:=k_.map (G:={ G with mO:=fun j=>if j=h.length then w.heap.size else G.mO j }) (h:=h++[.map []]) h.length ⟨.map [],by simp,by simp⟩
 simpa using this
theorem JB {t kt e:TypeId}{d:TypeDesc}{z:kN}{ok:Bool}(i:Inv G h w) (ht:P.underlying t=some (.map kt e)) (hd:P.underlying kt=some d) (hz:p_ P e=some z) (hf:rT d y=true)
  (hb:K6 z ok h x y=some v) (hx:k_ G h x X) (hy:k_ G h y Y):∃V,(Instr.lookup t X Y ok).run P w=.ok V w∧k_ G h v V:=by
 unfold K6 at hb;cases hb
theorem JE {t kt e:TypeId}{d:TypeDesc}{h':kO}(i:Inv G h w) (ht:P.underlying t=some (.map kt e)) (hd:P.underlying kt=some d) (hf:rT d y=true)
  (hb:K8 h x y v=some h') (hx:k_ G h x X) (hy:k_ G h y Y) (hv:k_ G h v V):∃w',(Instr.mapUpdate t X Y V).run P w=.ok () w'∧Inv G h' w'∧Ext G h w G h' w':=by
 unfold K8 at hb;cases hb
theorem JC {t kt e ty:TypeId}{d:TypeDesc}{h':kO}(i:Inv G h w) (ht:P.underlying t=some (.map kt e)) (hd:P.underlying kt=some d) (hf:rT d y=true)
  (hb:K7 h x y=some h') (hx:k_ G h x X) (hy:k_ G h y Y) {ts:Array TypeId}(hts:ts[0]?=some t):∃w',(Builtin.delete_ ts ty #[X,Y]).run P w=.ok (.tuple #[]) w'∧Inv G h' w'∧Ext G h w G h' w':=by
 unfold K7 at hb;cases hb
theorem xI:∀{rows:List (List kN)}{bs:List UInt8},bytesOf rows=some bs→∃ns:List Int,rows=ns.map (fun n=>[kN.int .u8 n])∧bs=ns.map fun n=>ar4 n.toNat
 | [],bs,hb=>by simp [bytesOf] at hb;subst hb;exact⟨[],rfl,rfl⟩
 | row::r,bs,hb=>by
  unfold bytesOf at hb
  split at hb
  ·rename_i h0;cases h0
  ·rename_i n r' h0
   cases h0
   split at hb
   ·rename_i bs' hbs
    cases hb
    obtain⟨ns,h1,h2⟩:=xI hbs
    exact⟨n::ns,by simp [h1],by simp [h2]⟩
   ·cases hb
  ·cases hb
theorem wZ {ns:List Int}(hrows:tH 1 h x=some (ns.map (fun n=>[kN.int .u8 n]))) (i:Inv G h w) (hx:k_ G h x X):∃V,(Conv.bytesToString X).run P w=.ok V w∧k_ G h (.str (ns.map fun n=>ar4 n.toNat)) V:=by
 obtain⟨a,news,s⟩:=xH i hrows hx
 obtain⟨cap,hX⟩:=s.form
 have hnews:news=ns.map (Value.int .u8):=by
  apply List.ext_getElem?
  intro j
  cases hj:ns[j]? with
  | none =>
   have:ns.length≤j:=List.getElem?_eq_none_iff.1 hj
   rw [List.getElem?_eq_none (by rw [s.len];simp;exact this),List.getElem?_eq_none (by simpa using this)]
  | some n =>
   obtain⟨u,h1,h2,_⟩:=s.rel j 0 [kN.int .u8 n] (.int .u8 n) (by simp [hj]) rfl
   simp only [Nat.mul_one,aq9] at h1
   rw [h1,ah3,hj]
   cases h2;rfl
 have hstr:(ns.foldl (fun r n=>r.push (ar4 n.toNat)) ByteArray.empty)=⟨(ns.map fun n=>ar4 n.toNat).toArray⟩:=by
  have:∀(ns:List Int) (b:ByteArray),ns.foldl (fun r n=>r.push (ar4 n.toNat)) b=⟨(b.data.toList++ns.map fun n=>ar4 n.toNat).toArray⟩:=by
   intro ns
   induction ns with
   | nil=>intro b;cases b;simp
   | cons n ns ih=>intro b;rw [List.foldl_cons,ih];cases b;simp [ByteArray.push]
  rw [this];rfl
 refine⟨.string ⟨(ns.map fun n=>ar4 n.toNat).toArray⟩,?_,.p _ _ (.str _)⟩
 rw [hX]
 cases a with
 | none =>
  have h0:ns=[]:=by
   cases ns with
   | nil=>rfl
   | cons n ns =>
    obtain⟨ad,h1,_⟩:=s.at_ 0 (.int .u8 n) (by rw [hnews];rfl)
    cases h1
  subst h0
  rfl
 | some ad =>
  have hload:(loadCells ad (ns.map (fun n=>[kN.int .u8 n])).length).run P w=.ok (ns.map (Value.int .u8)).toArray w:=by
   have:=run_loadCells (P:=P) w ad ns.length (fun j=>news.getD j undef) (fun j hj=>by
    have hjn:news[j]?=some (news.getD j undef):=by
     rw [ad9,ae1 (by rw [hnews];simpa using hj)];rfl
    obtain⟨ad',h1,h2⟩:=s.at_ j _ hjn
    cases h1;exact h2)
   rw [List.length_map,this]
   congr 1
   apply Array.ext'
   simp only [List.toList_toArray] at *
   apply List.ext_getElem?
   intro j
   rw [hnews]
   by_cases hj:j<ns.length
   ·simp [hj,ad9]
   ·simp [List.getElem?_eq_none (show ns.length≤j by omega),hj]
  have:=run_bytesToString (P:=P) w ad _ cap ns hload
  rw [hstr] at this
  exact this
theorem F5 (i:Inv G h w) (hb:rM x=some v) (hx:k_ G h x X):∃V,(Conv.bytesToString X).run P w=.ok V w∧k_ G h v V:=by
 unfold rM at hb
 split at hb
 ·rename_i rows tok
  simp only [ad2] at hb
  obtain⟨bs,hbs,rfl⟩:=hb
  obtain⟨ns,rfl,rfl⟩:=xI hbs
  have hrows:tH 1 h (.slice (ns.map (fun n=>[kN.int .u8 n])) tok)=some (ns.map (fun n=>[kN.int .u8 n])):=by
   simp [tH]
  exact wZ hrows i hx
 ·cases hb
theorem Jw (i:Inv G h w) (hb:yJ h x=some v) (hx:k_ G h x X):∃V,(Conv.bytesToString X).run P w=.ok V w∧k_ G h v V:=by
 unfold yJ at hb
 split at hb
 ·split at hb
  ·rename_i rows hrows
   simp only [ad2] at hb
   obtain⟨bs,hbs,rfl⟩:=hb
   obtain⟨ns,rfl,rfl⟩:=xI hbs
   exact wZ hrows i hx
  ·cases hb
 ·split at hb
  ·rename_i rows hrows
   simp only [ad2] at hb
   obtain⟨bs,hbs,rfl⟩:=hb
   obtain⟨ns,rfl,rfl⟩:=xI hbs
   exact wZ hrows i hx
  ·cases hb
 ·exact F5 i hb hx
def ar3 (P:Program) (A:xS) (f:Nat) (g:List kN→Option kN):Prop :=
 (∀(X:Array Value) (w:World),(callFunc f X).run P w=.ok (.enter f X) w) ∧
 ∀(G:Gh) (h:kO) (w:World) (args:List kN) (X:Array Value) (v:kN),Inv G h w→o_ A G h w→args.length=X.size→(∀(i:Nat) (u:kN),args[i]?=some u→k_ G h u (X.getD i undef))→g args=some v →
  Calls P f X w fun e w'=>(∃V,e=.returned V∧oL G.H v V)∧w'.os=w.os∧w'.tape=w.tape∧w'.output=w.output∧∃os,w'.heap=w.heap++os
def adL (P:Program) (A:xS) (f:Nat):Yy→Prop
 | .fn g=>ar3 P A f g
 | _=>False
def tO (P:Program) (A:xS):Prop:=(∀f,A.ext f=some .indexByte→∃fn,P.funcs[f]?=some fn∧(fn.name == "runtime.NumGoroutine")=false∧fn.body.isNone=true∧Extern.findNext fn=none∧Extern.find fn=some Extern.BytealgIndexByte.indexByte)∧∀f k,A.prm f=some k→adL P A f k
theorem Jy (l:List UInt8) (c:UInt8):vU l c=Lib.indexByte l c:=by
 induction l with
 | nil=>rfl
 | cons b l ih=>simp only [vU,Lib.indexByte,ih]
theorem HS {A:xS}{f:Nat}{k:Yr}{args:List kN}{r:mR×kO}{Xs:Array Value}(hX:tO P A) (hf:A.ext f=some k) (hb:aiF k args h=some r) (hl:args.length=Xs.size)
  (hr:∀(i:Nat) (v:kN),args[i]?=some v→k_ G h v (Xs.getD i undef)):∃v V,r=(.ret v,h)∧(callFunc f Xs).run P w=.ok (.value V) w∧k_ G h v V:=by
 unfold aiF at hb
 simp only [ad2] at hb
 obtain⟨v,hv,rfl⟩:=hb
 cases k with
 | indexByte =>
  unfold atP at hv
  split at hv
  ·rename_i s c _
   cases hv
   obtain⟨fn,e1,e2,e3,e4,e5⟩:=hX.1 f hf
   have h0:=(hr 0 _ rfl).xO
   have h1:=(hr 1 _ rfl).oN
   have hXs:Xs=#[.string ⟨s.toArray⟩,.int .u8 c]:=by
    obtain⟨l⟩:=Xs
    match l,hl,h0,h1 with
    | [a,b],_,h0,h1=>simp at h0 h1;subst h0;subst h1;rfl
   refine⟨_,.int .i64 (vU s (ar4 c.toNat)),rfl,?_,.p _ _ (.int _ _)⟩
   rw [run_callFunc_extern e1 e2 e3 e4 e5,hXs,Lib.run_indexByteString,Jy]
   rfl
  ·cases hv
end
end
section
open Go Go.RowKit
theorem xL {sz:Nat}:∀(rows:List (List kN)),(∀r∈rows,r.length=sz)→rows.flatten.length=rows.length*sz ∧
  ∀(k:Nat) (c:kN),rows.flatten[k]?=some c→∃(i j:Nat) (row:List kN),rows[i]?=some row∧row[j]?=some c∧k=i*sz+j
 | [],_=>⟨by simp,by simp⟩
 | r::rows,h=>by
  obtain⟨h1,h2⟩:=xL rows fun x hx=>h x (by simp [hx])
  have hr:=h r (by simp)
  refine⟨by simp [h1,hr,ar1];omega,fun k c hk=>?_⟩
  simp only [List.flatten_cons] at hk
  by_cases hlt:k<r.length
  ·rw [ah6 hlt] at hk
   exact⟨0,k,r,rfl,hk,by omega⟩
  ·rw [af7 (by omega)] at hk
   obtain⟨i,j,row,a1,a2,a3⟩:=h2 _ _ hk
   exact⟨i+1,j,row,by simpa using a1,a2,by rw [ar1];omega⟩
section
variable {P:Program}{G:Gh}{h:kO}{w:World}{x y v:kN}{X Y V:Value}
theorem Inv.KB (i:Inv G h w) {id tot' sz bb cap':Nat}{old:lN}{cs':List kN}{C':Array Value}{e':TypeId}{w':World}(hid:h[id]?=some old)
  (hold:(old=.front 0 0)∨∃tot sz0 cs,old=.vec tot sz0 cs∧tot<tot')
  (os:w'.os=w.os) (tape:w'.tape=w.tape) (output:w'.output=w.output) (size:w.heap.size≤w'.heap.size)
  (heap:∀k,k<w.heap.size→mF G id old≠some k→w'.heap[k]?=w.heap[k]?)
  (hbb:(w.heap.size≤bb)∨mF G id old=some bb)
  (hC:w'.heap[bb]?=some (.cells C' e' (0,0))) (hcap:tot'≤cap') (hmax:cap'≤maxLen) (hCs:C'.size=cap'*sz) (hsz0:0<sz) (hcs:cs'.length=tot'*sz)
  (hrel:∀(j:Nat) (u:kN),cs'[j]?=some u→u.lS=true∧k_ G h u (C'.getD j undef)) :
  ∃G',Inv G' (h.set id (.vec tot' sz cs')) w'∧Ext G h w G' (h.set id (.vec tot' sz cs')) w'∧G'.cur id=.slice (some ⟨bb,0,none⟩) tot' cap':=by
 let G':Gh:={ G with cur:=fun j=>if j=id then .slice (some ⟨bb,0,none⟩) tot' cap' else G.cur j }
 have hcur:G'.cur id=.slice (some ⟨bb,0,none⟩) tot' cap':=if_pos rfl
 have hbl:=i.mO id old hid
 have hHn:∀k,G.H bb k=none:=by
  intro k
  rcases hbb with h1 | h1
  ·exact i.EA h1
  ·rcases hold with rfl | ⟨tot,sz0,cs,rfl,_⟩
   ·rcases hbl with ⟨_,h2⟩ | ⟨b,cap,C,e,h2,h3,h4,h5,h6,h7,h8,_⟩
    ·simp [mF,h2,Value.ownBlock] at h1
    ·omega
   ·obtain⟨b,cap,C,e,g1,g2,g3,g4,g5,g6,g7,g8,g9⟩:=hbl
    simp [mF,g1,Value.ownBlock] at h1
    subst h1;exact g8 k
 have key:=i.step (G':=G') id old (.vec tot' sz cs') hid os tape output size heap (fun _ _=>rfl) (fun j hj=>if_neg hj) (fun _ _ _ hh=>hh) (fun _ _ _ _=>rfl)
  (fun b k v hb hv=>by
   have hv:G.H b k=some v:=hv
   rcases hb with hb | hb
   ·rw [i.EA hb] at hv;cases hv
   ·rcases hold with rfl | ⟨tot,sz0,cs,rfl,_⟩
    ·rcases hbl with ⟨_,h2⟩ | ⟨b,cap,C,e,h2,h3,h4,h5,h6,h7,h8,_⟩
     ·simp [mF,h2,Value.ownBlock] at hb
     ·omega
    ·obtain⟨b',cap,C,e,g1,g2,g3,g4,g5,g6,g7,g8,g9⟩:=hbl
     simp [mF,g1,Value.ownBlock] at hb
     subst hb;rw [g8] at hv;cases hv)
  (by
   rcases hold with rfl | ⟨tot,sz0,cs,rfl,hlt⟩
   ·exact⟨rfl,rfl⟩
   ·obtain⟨b,cap,C,e,g1,_⟩:=hbl
    refine⟨rfl,?_,fun e=>?_⟩
    ·rw [hcur,g1];simp only [wY];omega
    ·rw [hcur,g1] at e;simp only [wY] at e;omega)
  (fun m=>⟨bb,cap',C',e',hcur,hC,hcap,hmax,hCs,hsz0,hcs,hHn,fun j u hu=>⟨(hrel j u hu).1,(hrel j u hu).2.mono m⟩⟩)
  (fun b hb=>by
   have hb:(G'.cur id).ownBlock=some b:=hb
   rw [hcur] at hb
   simp only [Value.ownBlock,aa9] at hb
   subst hb;exact hbb)
 exact⟨G',key.1,key.2,hcur⟩
structure Om (G:Gh) (h:kO) (w:World) (sz:Nat) (rows:List (List kN)) (X:Value) (a:Option Addr) (news:List Value):Prop where
 form:∃cap,X=.slice a rows.length cap
 len:news.length=rows.length*sz
 rlen:∀r∈rows,r.length=sz
 at_:∀(j:Nat) u,news[j]?=some u→∃ad,a=some ad∧w.cell? (ad.add j)=some u
 rel:∀(i j:Nat) (row:List kN) (c:kN),rows[i]?=some row→row[j]?=some c→∃u,news[i*sz+j]?=some u∧k_ G h c u∧c.lS=true
theorem Src.toV {sz:Nat}{rows:List (List kN)}{a:Option Addr}{news:List Value}(s:Src G h w sz rows X a news):Om G h w sz rows X a news :=
 ⟨s.form,s.len,s.rlen,s.at_,fun i j row c h1 h2=>by obtain⟨u,e1,e2,e3⟩:=s.rel i j row c h1 h2;exact⟨u,e1,.p _ _ e2,e3⟩⟩
theorem Om.one {sz : Nat} {rows : List (List kN)} {a : Option Addr} {news : List Value} (s : Om G h w sz rows X a news) : ∀ u ∈ news, u.oneCell' = true := by
  intro u hu
  obtain ⟨j, hj⟩ := List.getElem?_of_mem hu
  have hjl : j < rows.length * sz := by rw [← s.len]; exact (ad0.1 hj).1
  have hpos : 0 < sz := by rcases Nat.eq_zero_or_pos sz with h0 | h0; · rw [h0] at hjl; omega
                           · exact h0
  have hrow : j / sz < rows.length := (Nat.div_lt_iff_lt_mul hpos).2 hjl
  have h1 : rows[j / sz]? = some rows[j / sz] := ae1 hrow
  have hl := s.rlen _ (ae0 h1)
  have h2 : rows[j / sz][j % sz]? = some (rows[j / sz][j % sz]'(by rw [hl]; exact aq2 _ hpos)) := ae1 _
  obtain ⟨u', e1, e2, e3⟩ := s.rel _ _ _ _ h1 h2
  rw [show j / sz * sz + j % sz = j by rw [Nat.mul_comm]; exact Nat.div_add_mod j sz] at e1
  rw [hj] at e1; cases e1
  exact (e2.BU e3).1
theorem Om.flat {sz:Nat}{rows:List (List kN)}{a:Option Addr}{news:List Value}(s:Om G h w sz rows X a news) :
  rows.flatten.length=news.length∧∀(k:Nat) (c:kN),rows.flatten[k]?=some c→c.lS=true∧∃u,news[k]?=some u∧k_ G h c u:=by
 obtain⟨h1,h2⟩:=xL rows s.rlen
 refine⟨by rw [h1,s.len],fun k c hk=>?_⟩
 obtain⟨i,j,row,a1,a2,rfl⟩:=h2 k c hk
 obtain⟨u,b1,b2,b3⟩:=s.rel i j row c a1 a2
 exact⟨b3,u,b1,b2⟩
theorem Al {sz:Nat}{rows:List (List kN)}(i:Inv G h w) (hb:Ak sz h x=some rows) (hx:k_ G h x X):∃a news,Om G h w sz rows X a news:=by
 unfold Ak at hb
 split at hb
 ·rename_i r hr
  cases hb
  obtain⟨a,news,s⟩:=xH i hr hx
  exact⟨a,news,s.toV⟩
 ·unfold VN at hb
  split at hb
  ·rename_i id tot off len sz' hno
   split at hb
   case h_2=>cases hb
   case h_1 x0 hgb =>
    have hid:=uX hgb
    split at hb
    case isFalse=>cases hb
    rename_i hcond
    obtain⟨rfl,hle⟩:=hcond
    simp only [aa9] at hb
    subst hb
    obtain⟨b,cap,rfl,hnf,htot,hlc,hv⟩:=hx.s9
    obtain⟨b',cap',C,e,g1,g2,g3,g4,g5,g6,g7,g8,g9⟩:=i.mO id _ hid
    obtain⟨l0,cap0,k1,_⟩:=hv (by rw [g1];rfl)
    rw [g1] at k1
    simp only [Value.slice.injEq,aa9,Addr.mk.injEq] at k1
    obtain⟨⟨rfl,_⟩,_,rfl⟩:=k1
    have hcl:x0.2.length≤C.size:=by rw [g7,g5];exact am6 _ g3
    have hdl:((x0.2.drop off).take (len*sz')).length=len*sz':=by rw [al4,List.length_drop];omega
    obtain⟨q1,q2,q3⟩:=qZ len sz' _ (by omega:len*sz'≤((x0.2.drop off).take (len*sz')).length)
    refine⟨some ⟨b',off,none⟩,(C.toList.drop off).take (len*sz'),⟨cap,by rw [q1]⟩,by rw [q1,al4,List.length_drop,aq7];omega,q2,?_,?_⟩
    ·intro j u hu
     rw [ah8] at hu
     split at hu
     ·refine⟨_,rfl,?_⟩
      rw [add_plain,cell_of w _ _ g2]
      rw [ah9,ah1] at hu
      exact hu
     ·cases hu
    ·intro i' j r c hi hj
     have hrow':=q3 i' j r c hi hj
     have hlt:i'*sz'+j<len*sz':=by
      have:=(ad0.1 hrow').1;omega
     have hc1:x0.2[off+(i'*sz'+j)]?=some c:=by
      rw [ah8,if_pos hlt,ah9] at hrow';exact hrow'
     obtain⟨hk,hrel⟩:=g9 _ c hc1
     have hCl:off+(i'*sz'+j)<C.size:=by have:=(ad0.1 hc1).1;omega
     refine⟨C.getD (off+(i'*sz'+j)) undef,?_,hrel,hk⟩
     rw [ah8,if_pos hlt,ah9,ah1,Array.getElem?_eq_getElem hCl]
     simp [ad1,hCl]
  ·cases hb
theorem AM {G':Gh}{h':kO}{id tot n sz bb cap:Nat}{cs:List kN}(hb:h'[id]?=some (.vec tot sz cs)) (hc:G'.cur id=.slice (some ⟨bb,0,none⟩) tot cap) (hn:n≤tot) (ht:tot≤cap) :
  k_ G' h' (.vslice id tot 0 n sz) (.slice (some ⟨bb,0,none⟩) n cap) :=
 .vslice id tot 0 n sz bb cap ⟨_,hb,by simp,by simp⟩ (by rw [hc];exact al1 _) (by omega) fun _=>⟨0,cap,hc,by simp,by omega,by omega⟩
set_option maxHeartbeats 2000000 in
theorem Ho {t ty e:TypeId}{sz bytes:Nat}{z r:kN}{h':kO}(i:Inv G h w) (ht:P.underlying t=some (.slice e)) (hn:mX P e=some sz) (hby:vV P e=some bytes)
  (hz:p_ P e=some z) (hzj:z.nE=false) (hzl:z.cells.length=sz) (hsz:sz≠0) (hb:sM sz bytes h x y=some (r,h')) (hx:k_ G h x X) (hy:k_ G h y Y) :
  ∃V w' G',(Builtin.append_ #[t,t] ty #[X,Y]).run P w=.ok V w'∧Inv G' h' w'∧Ext G h w G' h' w'∧k_ G' h' r V:=by
 obtain⟨ti,hti,hts,htb,Z,hzz,hZs⟩:∃ti,P.info? e=some ti∧ti.size=sz∧ti.bytes=bytes∧∃Z,ti.zero=some Z∧Z.cells.size=sz:=by
  unfold mX at hn;unfold vV at hby;unfold p_ at hz
  cases hi:P.info? e with
  | none=>simp [hi] at hn
  | some ti =>
   simp [hi] at hn hby hz
   obtain⟨Z,hZ1,hZ2⟩:=hz
   refine⟨ti,rfl,hn,hby,Z,hZ1,?_⟩
   subst hZ2
   rw [←hzl];exact(vW hzj (vL G h Z)).1.symm
 have fromNil:∀{G:Gh}{h:kO}{id:Nat}{new:List (List kN)}{a:Option Addr}{news:List Value}{capY:Nat},Inv G h w→h[id]?=some (.front 0 0)→Om G h w sz new Y a news→Y=.slice a new.length capY→new.length≠0 →
   new.length*bytes≤140737488355328→new.length≤140737488355328 →
   ∃V w' G',(Builtin.append_ #[t,t] ty #[.slice none 0 0,Y]).run P w=.ok V w'∧Inv G' (h.set id (.vec new.length sz new.flatten)) w'∧Ext G h w G' (h.set id (.vec new.length sz new.flatten)) w' ∧
    k_ G' (h.set id (.vec new.length sz new.flatten)) (.vslice id new.length 0 new.length sz) V:=by
  intro G h id new a news capY i hid src hYf hm hbytes hsmall
  have hposn:0<news.length:=by rw [src.len];exact Nat.mul_pos (by omega) (by omega)
  obtain⟨ad,had,_⟩:=src.at_ 0 _ (ae1 hposn)
  subst had
  have hnews:∀j u,news[j]?=some u→w.cell? (ad.add j)=some u:=fun j u hu=>by
   obtain⟨ad',e1,e2⟩:=src.at_ j u hu;cases e1;exact e2
  have hnl:news.length=new.length*ti.size:=by rw [hts];exact src.len
  have hrun:=run_append_nil (P:=P) w t ty e ti Z ht hti hzz ad new.length capY news hnl hnews (by omega) (by omega) (by rw [htb];omega)
  have hcapg:=grownCap_ge w new.length 0 e
  have hcapm:=grownCap_le_maxLen w new.length 0 e (by simp only [maxLen];omega)
  obtain⟨f1,f2⟩:=src.flat
  obtain⟨G',g1,g2,g3⟩:=i.KB (id:=id) (tot':=new.length) (sz:=sz) (bb:=w.heap.size) (cap':=grownCap w new.length 0 e) (cs':=new.flatten)
   (w':=w.drew.alloc (.cells (news.toArray++Builtin.zeroCells Z.cells (grownCap w new.length 0 e-new.length)) e)) hid (.inl rfl) rfl rfl rfl (by simp)
   (fun k hk _=>m_ w.drew _ k hk) (.inl (al1 _)) (heap_alloc_new w.drew _) (by omega) hcapm
   (by simp only [Array.size_append,List.size_toArray,size_zeroCells,hZs,src.len,←ar1];congr 1;omega)
   (by omega) (by rw [f1,src.len]) (fun j u hu=>by
    obtain⟨c1,u',c2,c3⟩:=f2 j u hu
    refine⟨c1,?_⟩
    rw [ad1,aq0 (by simpa using (ad0.1 c2).1),List.getElem?_toArray,c2]
    exact c3)
  rw [hYf]
  refine⟨_,_,G',hrun,g1,g2,AM (cs:=new.flatten) ?_ g3 (al1 _) hcapg⟩
  simp [(ad0.1 hid).1]
 unfold sM at hb
 split at hb
 ·-- a token that nobody has used
  rename_i id new hnew
  obtain⟨a,news,src⟩:=Al i hnew hy
  obtain⟨capY,hYf⟩:=src.form
  split at hb
  ·rename_i hid
   split at hb
   case isFalse=>cases hb
   rename_i hcond
   obtain⟨hbytes,hsmall⟩:=hcond
   obtain⟨hX,_,hcur⟩:=Kr i hx hid rfl
   have hc:G.cur id=.slice none 0 0:=by
    rcases hcur with ⟨_,hc⟩ | ⟨b,cap,C,e0,hc,_,_,_,_,hs0,_⟩
    ·exact hc
    ·omega
   rw [hX,hc]
   split at hb
   ·rename_i hm
    simp only [aa9,ap2] at hb
    obtain⟨rfl,rfl⟩:=hb
    refine⟨.slice none 0 0,w,G,?_,i,Ext.refl G h w,by rw [hX,hc] at hx;exact hx⟩
    rw [hYf,hm]
    exact rQ ht hti none a 0 0 capY (al1 _)
   ·rename_i hm
    simp only [aa9,ap2] at hb
    obtain⟨rfl,rfl⟩:=hb
    exact fromNil i hid src hYf hm hbytes hsmall
  ·cases hb
 ·-- a nil slice
  rename_i new hnew
  obtain⟨a,news,src⟩:=Al i hnew hy
  obtain⟨capY,hYf⟩:=src.form
  have hX:=hx.Mz
  rw [hX]
  split at hb
  ·rename_i hm
   simp only [aa9,ap2] at hb
   obtain⟨rfl,rfl⟩:=hb
   refine⟨.slice none 0 0,w,G,?_,i,Ext.refl G h w,by rw [hX] at hx;exact hx⟩
   rw [hYf,hm]
   exact rQ ht hti none a 0 0 capY (al1 _)
  ·rename_i hm
   split at hb
   case isFalse=>cases hb
   rename_i hcond
   obtain⟨hbytes,hsmall⟩:=hcond
   simp only [aa9,ap2] at hb
   obtain⟨rfl,rfl⟩:=hb
   obtain⟨G1,i1,x1,hc1,hH1⟩:=i.BY
   have src1:Om G1 (h++[.front 0 0]) w sz new Y a news:=⟨src.form,src.len,src.rlen,src.at_,fun i j row c h1 h2=>by
    obtain⟨u,e1,e2,e3⟩:=src.rel i j row c h1 h2;exact⟨u,e1,e2.mono x1.toMono,e3⟩⟩
   obtain⟨V,w',G',k1,k2,k3,k4⟩:=fromNil (id:=h.length) i1 (by simp) src1 hYf hm hbytes hsmall
   have hset:(h++[lN.front 0 0]).set h.length (.vec new.length sz new.flatten)=h++[.vec new.length sz new.flatten]:=by simp
   rw [hset] at k2 k3 k4
   exact⟨V,w',G',k1,k2,x1.trans k3,k4⟩
 ·-- a slice that is written into
  rename_i id tot n sz' new hnew
  obtain⟨a,news,src⟩:=Al i hnew hy
  obtain⟨capY,hYf⟩:=src.form
  split at hb
  ·rename_i x0 hgv
   have hid:=uX hgv
   split at hb
   case isFalse=>cases hb
   rename_i hcond
   obtain⟨rfl,hx1,hbytes,hsmall⟩:=hcond
   obtain⟨b,cap,rfl,hnf,htot,hlc,hv⟩:=hx.s9
   obtain⟨b',cap',C,e0,g1,g2,g3,g4,g5,g6,g7,g8,g9⟩:=i.mO id _ hid
   obtain⟨l0,cap0,k1,k2,k3,k4⟩:=hv (by rw [g1];rfl)
   have hcur:=g1
   rw [g1] at k1
   simp only [Value.slice.injEq,aa9,Addr.mk.injEq] at k1
   obtain⟨⟨rfl,_⟩,_,rfl⟩:=k1
   obtain⟨szb,cs⟩:=x0
   simp only at hx1 hid g5 g6 g7 g9 hb
   subst hx1
   have hl0:l0=0:=by
    rcases Nat.eq_zero_or_pos l0 with h0 | h0
    ·exact h0
    ·have:=Nat.mul_pos h0 g6;omega
   subst hl0
   simp only [Nat.sub_zero] at k4
   subst k4
   rw [hYf]
   split at hb
   ·rename_i hm
    simp only [aa9,ap2] at hb
    obtain⟨rfl,rfl⟩:=hb
    refine⟨_,w,G,?_,i,Ext.refl G h w,hx⟩
    rw [hm]
    exact rQ ht hti _ a n _ capY hlc
   ·rename_i hm
    have hposn:0<news.length:=by rw [src.len];exact Nat.mul_pos (by omega) (by omega)
    obtain⟨ad,had,_⟩:=src.at_ 0 _ (ae1 hposn)
    subst had
    have hnews:∀j u,news[j]?=some u→w.cell? (ad.add j)=some u:=fun j u hu=>by
     obtain⟨ad',e1,e2⟩:=src.at_ j u hu;cases e1;exact e2
    have hone:=src.one
    have hnl:news.length=new.length*ti.size:=by rw [hts];exact src.len
    obtain⟨f1,f2⟩:=src.flat
    have hnt:n≤tot:=by omega
    have hns:n*szb≤tot*szb:=am6 _ hnt
    have hts2:tot*szb≤C.size:=by rw [g5];exact am6 _ g3
    have room:∀{m:Nat},n+new.length≤cap→m=n+new.length →
      (Builtin.append_ #[t,t] ty #[.slice (some ⟨b',0,none⟩) n cap,.slice (some ad) new.length capY]).run P w =
      .ok (.slice (some ⟨b',0,none⟩) m cap) (w.setRow b' (C.toList.take (n*szb)++news++C.toList.drop (n*szb+news.length)).toArray):=by
     intro m hroom hm'
     subst hm'
     have hfit:n*ti.size+news.length≤C.size:=by rw [hts,src.len,g5,←ar1];exact am6 _ hroom
     have hf:=run_firstCells_some (P:=P) w ti.size new.length ad new.length capY news hnl hnews
     have hst:=run_storeCells_at P b' (n*ti.size) e0 news 0 C w g2 (by simpa using hfit) hone
     simp only [aq9] at hst
     rw [←hts]
     simp [Builtin.append_,run_underlying ht,Go.sizeOf,Go.typeInfo,hti,Builtin.lenOf,hroom,hf,Addr.add_lit,hst]
    split at hb
    ·-- within what is there
     rename_i hin
     simp only [aa9,ap2] at hb
     obtain⟨rfl,rfl⟩:=hb
     have hle:n*szb+new.flatten.length≤cs.length:=by
      rw [f1,src.len,g7,←ar1];exact am6 _ hin
     obtain⟨w1,w2⟩:=i.Tj (off:=n*szb) (vs:=new.flatten) (U:=news) hid hcur g2 hle f1.symm (fun j u hu=>by
      obtain⟨c1,u',c2,c3⟩:=f2 j u hu
      refine⟨c1,?_⟩
      rw [ad9,c2];exact c3)
     refine⟨_,_,G,room (by omega) rfl,w1,w2,AM (cs:=kU cs (n*szb) new.flatten) ?_ hcur hin g3⟩
     simp [(ad0.1 hid).1]
    ·rename_i hin
     simp only [aa9,ap2] at hb
     obtain⟨rfl,rfl⟩:=hb
     have htk:(cs.take (n*szb)).length=n*szb:=by rw [al4];omega
     have hcl:(cs.take (n*szb)++new.flatten).length=(n+new.length)*szb:=by
      rw [List.length_append,htk,f1,src.len,ar1]
     have cells:∀(C':Array Value),(∀k,k<n*szb→C'[k]?=C[k]?)→(∀k u,news[k]?=some u→C'[n*szb+k]?=some u) →
       ∀(j:Nat) (u:kN),(cs.take (n*szb)++new.flatten)[j]?=some u→u.lS=true∧k_ G h u (C'.getD j undef):=by
      intro C' hC1 hC2 j u hu
      by_cases hj:j<n*szb
      ·rw [ah6 (by omega),ah8,if_pos hj] at hu
       have:=g9 j u hu
       rw [ad1] at this ⊢
       rw [hC1 j hj];exact this
      ·rw [af7 (by omega),htk] at hu
       obtain⟨c1,u',c2,c3⟩:=f2 _ u hu
       refine⟨c1,?_⟩
       have:=hC2 _ _ c2
       rw [show n*szb+(j-n*szb)=j by omega] at this
       rw [ad1,this];exact c3
     by_cases hroom:n+new.length≤cap
     ·have hfit:n*szb+news.length≤C.size:=by rw [src.len,g5,←ar1];exact am6 _ hroom
      obtain⟨G',k5,k6,k7⟩:=i.KB (id:=id) (tot':=n+new.length) (sz:=szb) (bb:=b') (cap':=cap) (cs':=cs.take (n*szb)++new.flatten)
       (C':=(C.toList.take (n*szb)++news++C.toList.drop (n*szb+news.length)).toArray) (e':=e0)
       (w':=w.setRow b' (C.toList.take (n*szb)++news++C.toList.drop (n*szb+news.length)).toArray) hid (.inr ⟨tot,szb,cs,rfl,by omega⟩) (by simp) (by simp) (by simp) (by simp)
       (fun k hk hne=>setRow_other w b' k _ (fun e=>hne (by simp [mF,hcur,Value.ownBlock,e]))) (.inr (by simp [mF,hcur,Value.ownBlock])) (setRow_heap w b' C _ e0 _ g2) hroom g4
       (by simp;omega) g6 hcl (cells _ (fun k hk=>by rw [rN C news _ k hfit,if_pos hk]) (fun k u hu=>by
        have:=(ad0.1 hu).1
        rw [rN C news _ _ hfit,if_neg (by omega),if_pos (by omega),show n*szb+k-n*szb=k by omega];exact hu))
      refine⟨_,_,G',room hroom rfl,k5,k6,AM (cs:=cs.take (n*szb)++new.flatten) ?_ k7 (al1 _) hroom⟩
      simp [(ad0.1 hid).1]
     ·have hxl:(C.toList.take (n*szb)).length=n*szb:=by
       rw [al4,aq7];omega
      have hxc:∀j u,(C.toList.take (n*szb))[j]?=some u→w.cell? ((⟨b',0,none⟩:Addr).add j)=some u:=by
       intro j u hu
       rw [ah8] at hu
       split at hu
       ·rw [add_plain,cell_of w _ _ g2,Nat.zero_add];rwa [ah1] at hu
       ·cases hu
      have hrun:=run_append_grow (P:=P) w t ty e ti Z ht hti hzz ⟨b',0,none⟩ n cap (C.toList.take (n*szb)) (by rw [hts];exact hxl) hxc ad new.length capY news hnl hnews (by omega) (by omega)
       (growslice_fits (by omega) (by rw [htb];exact hbytes))
      have hcapg:=grownCap_ge w (n+new.length) cap e
      have hcapm:=grownCap_le_maxLen w (n+new.length) cap e (by simp only [maxLen];omega)
      obtain⟨G',k5,k6,k7⟩:=i.KB (id:=id) (tot':=n+new.length) (sz:=szb) (bb:=w.heap.size) (cap':=grownCap w (n+new.length) cap e) (cs':=cs.take (n*szb)++new.flatten)
       (w':=w.drew.alloc (.cells ((C.toList.take (n*szb)).toArray++news.toArray++Builtin.zeroCells Z.cells (grownCap w (n+new.length) cap e-(n+new.length))) e)) hid
       (.inr ⟨tot,szb,cs,rfl,by omega⟩) rfl rfl rfl (by simp)
       (fun k hk _=>m_ w.drew _ k hk) (.inl (al1 _)) (heap_alloc_new w.drew _) (by omega) hcapm
       (by simp only [Array.size_append,List.size_toArray,size_zeroCells,hZs,src.len,hxl,←ar1];congr 1;omega)
       g6 hcl (cells _ (fun k hk=>by
        rw [aq0 (by simp [hxl,src.len];omega),List.append_toArray,List.getElem?_toArray,ah6 (by omega),ah8,if_pos hk,ah1]) (fun k u hu=>by
        have hk:=(ad0.1 hu).1
        rw [aq0 (by simp only [List.append_toArray,List.size_toArray,List.length_append,hxl];omega),List.append_toArray,List.getElem?_toArray,af7 (by omega),hxl,show n*szb+k-n*szb=k by omega];exact hu))
      refine⟨_,_,G',hrun,k5,k6,AM (cs:=cs.take (n*szb)++new.flatten) ?_ k7 (al1 _) hcapg⟩
      simp [(ad0.1 hid).1]
  ·cases hb
 ·cases hb
theorem zB {r:kN}{h':kO}(i:Inv G h w) (hb:BN h x=some (r,h')) (hx:k_ G h x X):∃G',Inv G' h' w∧Ext G h w G' h' w∧k_ G' h' r X:=by
 unfold BN at hb;cases hb
theorem Hy {r:kN}{h':kO}(i:Inv G h w) (hb:Hx h x=some (r,h')) (hx:k_ G h x X):∃G',Inv G' h' w∧Ext G h w G' h' w∧k_ G' h' r X:=by
 unfold Hx at hb;cases hb
theorem Cu {t e:TypeId}{len sz:Nat}{z r:kN}{h':kO}{parts:Array (Nat×Operand)}{f:Operand→kN}{F:Operand→Value}
  (i:Inv G h w) (ht:P.underlying t=some (.slice e)) (hz:p_ P e=some z) (hn:mX P e=some sz) (hsz:sz≠0) (hle:len*sz≤16777216) (hf:∀o,k_ G h (f o) (F o)) (hzj:z.nE=false)
  (hb:vA len sz z.cells (parts.toList.map fun p=>(p.1,f p.2)) h=some (r,h')) :
  ∃V w' G',(Instr.buildSlice t len (parts.map fun(i,x)=>(i,F x))).run P w=.ok V w'∧Inv G' h' w'∧Ext G h w G' h' w'∧k_ G' h' r V:=by
 unfold vA at hb
 split at hb
 ·rename_i rows hrows
  simp only [aa9,ap2] at hb
  obtain⟨rfl,rfl⟩:=hb
  obtain⟨cs,row,C,h1,rfl,h3,h4,h5,h6⟩:=A_ (G:=G) (h:=h) (w:=w) ht hz hn hsz hle hf hzj hrows
  obtain⟨G1,i1,x1,hc1,hH1⟩:=i.BY
  obtain⟨p1,p2⟩:=qU h1
  have hcl:cs.length=len*sz:=by rw [h3.1,h4]
  obtain⟨q1,q2,q3⟩:=qZ len sz row (by omega)
  obtain⟨f1,f2⟩:=xL _ q2
  obtain⟨G',g1,g2,g3⟩:=i1.KB (id:=h.length) (tot':=len) (sz:=sz) (bb:=w.heap.size) (cap':=len) (cs':=(rowsOf len sz row).flatten) (C':=C) (e':=e) (w':=w.alloc (.cells C e)) (by simp) (.inl rfl) rfl rfl rfl (by simp)
   (fun k hk _=>m_ w _ k hk) (.inl (al1 _)) (heap_alloc_new w _) (al1 _) h5 h4 (by omega) (by rw [f1,q1]) (fun k u hu=>by
    obtain⟨i',j,r,a1,a2,rfl⟩:=f2 k u hu
    have hr:=q3 i' j r u a1 a2
    have hlt:i'*sz+j<cs.length:=by rw [←p1];exact(ad0.1 hr).1
    obtain⟨c',e1,e2⟩:=p2 _ _ (ae1 hlt)
    rw [hr] at e1;cases e1
    obtain⟨z1,z2⟩:=wC e2 (h3.2 _ _ (ae1 hlt))
    refine⟨z2,.p _ _ ?_⟩
    rw [hH1];exact z1)
  have hset:(h++[lN.front 0 0]).set h.length (.vec len sz (rowsOf len sz row).flatten)=h++[.vec len sz (rowsOf len sz row).flatten]:=by simp
  rw [hset] at g1 g2
  exact⟨_,_,G',h6,g1,x1.trans g2,AM (cs:=(rowsOf len sz row).flatten) (by simp) g3 (al1 _) (al1 _)⟩
 ·unfold Dd at hb
  split at hb
  ·rename_i cs hbd
   split at hb
   case isFalse=>cases hb
   rename_i hcond
   obtain⟨hzl,hall⟩:=hcond
   simp only [aa9,ap2] at hb
   obtain⟨rfl,rfl⟩:=hb
   obtain⟨C,h3,h4,h5,h6⟩:=zT (G:=G) (h:=h) (w:=w) ht hz hn hsz hle hf hzj hzl hbd
   obtain⟨G1,i1,x1,hc1,hH1⟩:=i.BY
   have hcl:cs.length=len*sz:=by rw [h3.1,h4]
   obtain⟨G',g1,g2,g3⟩:=i1.KB (id:=h.length) (tot':=len) (sz:=sz) (bb:=w.heap.size) (cap':=len) (cs':=cs) (C':=C) (e':=e) (w':=w.alloc (.cells C e)) (by simp) (.inl rfl) rfl rfl rfl (by simp)
    (fun k hk _=>m_ w _ k hk) (.inl (al1 _)) (heap_alloc_new w _) (al1 _) h5 h4 (by omega) hcl (fun k u hu =>
     ⟨al0.1 hall u (ae0 hu),(h3.2 k u hu).mono x1.toMono⟩)
   have hset:(h++[lN.front 0 0]).set h.length (.vec len sz cs)=h++[.vec len sz cs]:=by simp
   rw [hset] at g1 g2
   exact⟨_,_,G',h6,g1,x1.trans g2,AM (cs:=cs) (by simp) g3 (al1 _) (al1 _)⟩
  ·cases hb
theorem KX {t t2 e ty:TypeId}{r:kN}{h':kO}(i:Inv G h w) (ht:P.underlying t=some (.slice e)) (hn:mX P e=some 1)
  (hb:zA h x y=some (r,h')) (hx:k_ G h x X) (hy:k_ G h y Y) :
  ∃V w' G',(Builtin.copy_ #[t,t2] ty #[X,Y]).run P w=.ok V w'∧Inv G' h' w'∧Ext G h w G' h' w'∧k_ G' h' r V:=by
 obtain⟨ti,hti,hts⟩:∃ti,P.info? e=some ti∧ti.size=1:=by
  unfold mX at hn
  cases hi:P.info? e with
  | none=>simp [hi] at hn
  | some ti=>simp [hi] at hn;exact⟨ti,rfl,hn⟩
 unfold zA at hb
 split at hb
 ·rename_i id tot off len bs
  split at hb
  ·rename_i x0 hgv
   have hid:=uX hgv
   split at hb
   case isFalse=>cases hb
   rename_i hcond
   obtain⟨hle,hx1⟩:=hcond
   simp only [aa9,ap2] at hb
   obtain⟨rfl,rfl⟩:=hb
   have hY:=hy.xO
   subst hY
   obtain⟨b,cap,rfl,hnf,htot,hlc,hv⟩:=hx.s9
   obtain⟨b',cap',C,e0,g1,g2,g3,g4,g5,g6,g7,g8,g9⟩:=i.mO id _ hid
   obtain⟨l0,cap0,k1,k2,k3,k4⟩:=hv (by rw [g1];rfl)
   have hcur:=g1
   rw [g1] at k1
   simp only [Value.slice.injEq,aa9,Addr.mk.injEq] at k1
   obtain⟨⟨rfl,_⟩,_,rfl⟩:=k1
   obtain⟨szb,cs⟩:=x0
   simp only at hx1 hid g5 g6 g7 g9 hle
   subst hx1
   have hU:((bs.take len).map fun b=>Value.int .u8 b.toNat).length=((bs.take len).map fun b=>kN.int .u8 b.toNat).length:=by simp
   have hfit:off+((bs.take len).map fun b=>kN.int .u8 b.toNat).length≤cs.length:=by
    rw [List.length_map,al4];omega
   obtain⟨w1,w2⟩:=i.Tj (off:=off) (vs:=(bs.take len).map fun b=>kN.int .u8 b.toNat) (U:=(bs.take len).map fun b=>Value.int .u8 b.toNat) hid hcur g2 hfit hU (fun j u hu=>by
    rw [ah3,ad2] at hu
    obtain⟨c,hc,rfl⟩:=hu
    refine⟨rfl,?_⟩
    rw [ad9,ah3,hc]
    exact .p _ _ (.int _ _))
   have hCl:cs.length≤C.size:=by rw [g7,g5];exact am6 _ g3
   have hone:∀u∈((bs.take len).map fun b=>Value.int .u8 b.toNat),u.oneCell'=true:=by
    intro u hu
    obtain⟨c,_,rfl⟩:=List.mem_map.1 hu
    rfl
   have hst:=run_storeCells_at P b' off e0 ((bs.take len).map fun b=>Value.int .u8 b.toNat) 0 C w g2 (by simp only [aq9,List.length_map,al4] at hfit ⊢;omega) hone
   simp only [aq9] at hst
   refine⟨.int .i64 (min bs.length len:Nat),_,G,?_,w1,w2,.p _ _ (.int _ _)⟩
   have hsz:(⟨bs.toArray⟩:ByteArray).size=bs.length:=by simp [ByteArray.size]
   have e5:List.take (min len bs.length) (List.map (fun b=>Value.int .u8 b.toNat) bs)=List.take len (List.map (fun b=>Value.int .u8 b.toNat) bs):=by
    rw [List.take_eq_take_iff]
    simp only [List.length_map]
    omega
   rw [List.map_take] at hst
   have e6:bs.length.min len=min len bs.length:=Nat.min_comm _ _
   simp [Builtin.copy_,run_underlying ht,Go.sizeOf,Go.typeInfo,hti,hts,Builtin.lenOf,hsz,Builtin.firstCells,Sem.run_pure,e6,e5,hst,goInt,Nat.min_comm bs.length len]
  ·cases hb
 ·cases hb
theorem Dg {t e:TypeId}{sz by_:Nat}{z r:kN}{h':kO}(i:Inv G h w) (ht:P.underlying t=some (.slice e)) (hn:mX P e=some sz) (hby:vV P e=some by_) (hz:p_ P e=some z)
  (h0:sz≠0) (hj:z.nE=false) (hl:z.cells.length=sz) (hk:z.cells.all kN.lS=true) (hb:pI sz by_ z.cells x h=some (r,h')) {k k':IntKind}{n:Int}(hxn:x=.int k n) (hX:X=.int k n) (hY:Y=.int k' n) :
  ∃V w' G',(Instr.makeSlice t X Y).run P w=.ok V w'∧Inv G' h' w'∧Ext G h w G' h' w'∧k_ G' h' r V:=by
 subst hxn;subst hX;subst hY
 simp only [pI] at hb
 split at hb
 case isFalse=>cases hb
 rename_i hcond
 obtain⟨hn0,hbytes,hmax⟩:=hcond
 simp only [aa9,ap2] at hb
 obtain⟨rfl,rfl⟩:=hb
 obtain⟨m,rfl⟩:=Int.eq_ofNat_of_zero_le hn0
 simp only [Int.toNat_natCast] at *
 unfold mX at hn;unfold vV at hby;unfold p_ at hz
 cases hi:P.info? e with
 | none=>simp [hi] at hn
 | some ti =>
  simp only [hi,Option.map_some,aa9,Option.bind_some,ad2] at hn hby hz
  obtain⟨Z,hZ,hz⟩:=hz
  have hrun:=run_make (P:=P) w t e ti Z ht hi hZ k k' m m hn0 (Int.le_refl _) (by
   rw [hby]
   have:((m*by_:Nat):Int)≤140737488355328:=by omega
   rw [Int.natCast_mul] at this
   rw [Int.mul_comm];omega) (by omega)
  obtain⟨G1,i1,x1,hc1,hH1⟩:=i.BY
  have hrz:k_ G1 (h++[.front 0 0]) z Z:=by rw [←hz];exact vL G1 _ Z
  have hcz:=vW hj hrz
  have hrc:=BA (G:=G1) (h:=h++[lN.front 0 0]) hcz m
  have hmade:madeCells Z.cells ((m:Int).toNat*ti.size)=(Array.range (m*Z.cells.size)).map fun j=>Z.cells[j%Z.cells.size]! := by
   rw [hn,←hl,hcz.1];simp [madeCells]
  rw [hmade] at hrun
  have hfl:(ai1 m z.cells).flatten.length=m*sz:=by simp [hl]
  obtain⟨G',g1,g2,g3⟩:=i1.KB (id:=h.length) (tot':=m) (sz:=sz) (bb:=w.heap.size) (cap':=m) (cs':=(ai1 m z.cells).flatten) (C':=(Array.range (m*Z.cells.size)).map fun j=>Z.cells[j%Z.cells.size]!) (e':=e)
   (w':=w.alloc (.cells ((Array.range (m*Z.cells.size)).map fun j=>Z.cells[j%Z.cells.size]!) e)) (by simp) (.inl rfl) rfl rfl rfl (by simp)
   (fun k hk _=>m_ w _ k hk) (.inl (al1 _)) (heap_alloc_new w _) (al1 _) (by simp only [maxLen];omega) (by simp [←hcz.1,hl]) (by omega) hfl (fun k u hu=>by
    refine⟨?_,hrc.2 k u hu⟩
    obtain⟨l,hl1,hl2⟩:=List.mem_flatten.1 (ae0 hu)
    rw [(List.mem_replicate.1 hl1).2] at hl2
    exact al0.1 hk u hl2)
  have hset:(h++[lN.front 0 0]).set h.length (.vec m sz (ai1 m z.cells).flatten)=h++[.vec m sz (ai1 m z.cells).flatten]:=by simp
  rw [hset] at g1 g2
  exact⟨_,_,G',by simpa using hrun,g1,x1.trans g2,AM (cs:=(ai1 m z.cells).flatten) (by simp) g3 (al1 _) (al1 _)⟩
theorem KW {t e ty:TypeId}{sz:Nat}{z:kN}{h':kO}{ts:Array TypeId}(i:Inv G h w) (ht:P.underlying t=some (.slice e)) (hz:p_ P e=some z) (hzj:z.nE=false)
  (hb:PU sz z.cells h x=some h') (hx:k_ G h x X) (hts:ts[0]?=some t):∃w',(Builtin.clear_ ts ty #[X]).run P w=.ok (.tuple #[]) w'∧Inv G h' w'∧Ext G h w G h' w':=by
 unfold PU at hb;cases hb
theorem F6 {t kt e ty:TypeId}{h':kO}{ts:Array TypeId}(i:Inv G h w) (ht:P.underlying t=some (.map kt e))
  (hb:ED h x=some h') (hx:k_ G h x X) (hts:ts[0]?=some t):∃w',(Builtin.clear_ ts ty #[X]).run P w=.ok (.tuple #[]) w'∧Inv G h' w'∧Ext G h w G h' w':=by
 unfold ED at hb;cases hb
end
end
section
open Go Go.RowKit
section
variable {P:Program}{G:Gh}{h:kO}{w:World}{x y v:kN}{X Y V:Value}
theorem K5 {t:TypeId}{g:Bool}{n:Nat}(hg:qG P t=some g) (hn:mX P t=some n) (i:Inv G h w) (hb:K4 g n h x=some v) (hx:k_ G h x X) :
  ∃V,(Instr.loadAt t X).run P w=.ok V w∧k_ G h v V:=by
 unfold K4 at hb;cases hb
theorem JH {t:TypeId}{n:Nat}{h':kO}(hn:mX P t=some n) (i:Inv G h w) (hb:Lb n h x y=some h') (hx:k_ G h x X) (hy:k_ G h y Y) :
  ∃w',(Instr.storeAt t X Y).run P w=.ok () w'∧Inv G h' w'∧Ext G h w G h' w':=by
 unfold Lb at hb;cases hb
theorem K3 {tb:Bool}{t:TypeId}{g:Bool}{n:Nat}(hg:qG P t=some g) (hn:mX P t=some n) (i:Inv G h w) (hb:EF tb g n h x=some v) (hx:k_ G h x X) :
  ∃V,(Instr.loadAt t X).run P w=.ok V w∧k_ G h v V:=by
 cases tb with
 | true=>exact K5 hg hn i hb hx
 | false=>exact FC hg hn i hb hx
theorem JG {tb:Bool}{t:TypeId}{n:Nat}{h':kO}(hn:mX P t=some n) (i:Inv G h w) (hb:Tq tb n h x y=some h') (hx:k_ G h x X) (hy:k_ G h y Y) :
  ∃w',(Instr.storeAt t X Y).run P w=.ok () w'∧Inv G h' w'∧Ext G h w G h' w':=by
 cases tb with
 | true=>exact JH hn i hb hx hy
 | false=>exact Dl hn i hb hx hy
theorem Ou {tb:Bool}{t:TypeId}{n:Nat}{p:kN}{h':kO}(i:Inv G h w) (hb:Ke tb t n h x=some (p,h')) (hx:k_ G h x X) :
  ∃V w' G',(Instr.box t X).run P w=.ok V w'∧Inv G' h' w'∧Ext G h w G' h' w'∧k_ G' h' p V:=by
 cases tb with
 | true=>simp [Ke,Dk] at hb
 | false=>exact PR i hb hx
theorem Jt {tb:Bool}{t:TypeId}{n:Nat}{z p:kN}{h':kO}(i:Inv G h w) (hz:p_ P t=some z) (hb:Ke tb t n h z=some (p,h')) :
  ∃V w' G',(Instr.alloc t true (.tuple #[])).run P w=.ok V w'∧Inv G' h' w'∧Ext G h w G' h' w'∧k_ G' h' p V:=by
 cases tb with
 | true=>simp [Ke,Dk] at hb
 | false=>exact KT i hz hb
end
end
end Hk
