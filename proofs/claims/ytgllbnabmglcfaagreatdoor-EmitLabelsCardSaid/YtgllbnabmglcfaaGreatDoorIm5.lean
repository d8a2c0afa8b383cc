/-
  The texts IM.T3, one behind another. No conditions.
-/
import Derived.Test.YtgllbnabmglcfaaGreatDoorProg
import Derived.Shelf.SlSortCmp.NoneTotal
import Derived.Shelf.SlicesG.Cmp
import Derived.WalkKit
import Derived.OwnWalk
import Derived.StillTailTactics
import Derived.Test.YtgllbnabmglcfaaGreatDoorVk1
set_option linter.unusedVariables false
set_option linter.unusedSimpArgs false
set_option linter.all false
open List renaming getElem?_eq_getElem → ag8
namespace Go.Proofs
open Go.Shelf
def Tryz.Ld:Go.Shelf.Ren:=⟨fun | 6=>40 | 15=>75 | 14=>74 | 28=>94 | 29=>95 | 20=>86 | 21=>87 | 22=>88 | 23=>89 | 24=>90 | 25=>91 | 26=>92 | 27=>93 | 46=>102 | 47=>103 | 48=>104 | 49=>105 | 50=>106 | 57=>108 | n=>n,fun | 22=>34 | 24=>3 | 25=>107 | 3=>3 | 39=>150 | 0=>0 | 53=>172 | 55=>174 | 4=>4 | 46=>165 | 45=>164 | 50=>169 | 5=>5 | 9=>9 | 66=>178 | 70=>182 | 76=>186 | 77=>142 | n=>n,fun | n=>n⟩
theorem Tryz.Gx:Go.Proofs.SlLaysF.n6 Tryz.prog Tryz.Ld:={
 mixed:=by kernel_rfl
 f6:=⟨Tryz.f40.name,by decide,Tryz.func40.trans (congrArg some (by kernel_rfl))⟩
 f14:=⟨Tryz.f74.name,by decide,Tryz.func74.trans (congrArg some (by kernel_rfl))⟩
 f15:=Tryz.func75.trans (congrArg some (by kernel_rfl))
 f20:=⟨Tryz.f86.name,by decide,Tryz.func86.trans (congrArg some (by kernel_rfl))⟩
 f21:=⟨Tryz.f87.name,by decide,Tryz.func87.trans (congrArg some (by kernel_rfl))⟩
 f22:=⟨Tryz.f88.name,by decide,Tryz.func88.trans (congrArg some (by kernel_rfl))⟩
 f23:=⟨Tryz.f89.name,by decide,Tryz.func89.trans (congrArg some (by kernel_rfl))⟩
 f24:=⟨Tryz.f90.name,by decide,Tryz.func90.trans (congrArg some (by kernel_rfl))⟩
 f25:=⟨Tryz.f91.name,by decide,Tryz.func91.trans (congrArg some (by kernel_rfl))⟩
 f26:=⟨Tryz.f92.name,by decide,Tryz.func92.trans (congrArg some (by kernel_rfl))⟩
 f27:=⟨Tryz.f93.name,by decide,Tryz.func93.trans (congrArg some (by kernel_rfl))⟩
 f28:=Tryz.func94.trans (congrArg some (by kernel_rfl))
 f29:=Tryz.func95.trans (congrArg some (by kernel_rfl))
 f46:=⟨Tryz.f102.name,by decide,Tryz.func102.trans (congrArg some (by kernel_rfl))⟩
 f47:=Tryz.func103.trans (congrArg some (by kernel_rfl))
 f48:=Tryz.func104.trans (congrArg some (by kernel_rfl))
 f49:=⟨Tryz.f105.name,by decide,Tryz.func105.trans (congrArg some (by kernel_rfl))⟩
 f50:=⟨Tryz.f106.name,by decide,Tryz.func106.trans (congrArg some (by kernel_rfl))⟩
 f57:=⟨Tryz.f108.name,by decide,Tryz.func108.trans (congrArg some (by kernel_rfl))⟩
 t0:=Tryz.underlying0
 a0:=Tryz.isAgg0
 z0:=Tryz.sizeOf0
 v0:=Tryz.zeroValue0
 t3:=Tryz.underlying3
 a3:=Tryz.isAgg3
 z3:=Tryz.sizeOf3
 v3:=Tryz.zeroValue3
 t4:=Tryz.underlying4
 a4:=Tryz.isAgg4
 z4:=Tryz.sizeOf4
 v4:=Tryz.zeroValue4
 t5:=Tryz.underlying5
 a5:=Tryz.isAgg5
 z5:=Tryz.sizeOf5
 v5:=Tryz.zeroValue5
 t9:=Tryz.underlying9
 a9:=Tryz.isAgg9
 z9:=Tryz.sizeOf9
 v9:=Tryz.zeroValue9
 t22:=Tryz.underlying34
 a22:=Tryz.isAgg34
 z22:=Tryz.sizeOf34
 v22:=Tryz.zeroValue34
 a24:=Tryz.isAgg3
 z24:=Tryz.sizeOf3
 t25:=Tryz.underlying107
 a25:=Tryz.isAgg107
 z25:=Tryz.sizeOf107
 v25:=Tryz.zeroValue107
 t39:=Tryz.underlying150
 a39:=Tryz.isAgg150
 z39:=Tryz.sizeOf150
 v39:=Tryz.zeroValue150
 t45:=Tryz.underlying164
 a45:=Tryz.isAgg164
 z45:=Tryz.sizeOf164
 v45:=Tryz.zeroValue164
 t46:=Tryz.underlying165
 a46:=Tryz.isAgg165
 z46:=Tryz.sizeOf165
 v46:=Tryz.zeroValue165
 t50:=Tryz.underlying169
 a50:=Tryz.isAgg169
 z50:=Tryz.sizeOf169
 v50:=Tryz.zeroValue169
 t53:=Tryz.underlying172
 a53:=Tryz.isAgg172
 z53:=Tryz.sizeOf172
 v53:=Tryz.zeroValue172
 t55:=Tryz.underlying174
 a55:=Tryz.isAgg174
 z55:=Tryz.sizeOf174
 v55:=Tryz.zeroValue174
 t66:=Tryz.underlying178
 a66:=Tryz.isAgg178
 z66:=Tryz.sizeOf178
 v66:=Tryz.zeroValue178
 t70:=Tryz.underlying182
 a70:=Tryz.isAgg182
 z70:=Tryz.sizeOf182
 v70:=Tryz.zeroValue182
 t76:=Tryz.underlying186
 a76:=Tryz.isAgg186
 z76:=Tryz.sizeOf186
 v76:=Tryz.zeroValue186
 t77:=Tryz.underlying142
 a77:=Tryz.isAgg142
 z77:=Tryz.sizeOf142
 v77:=Tryz.zeroValue142 }
def Tryz.W0:Go.Shelf.Ren:=⟨fun | 5=>43 | 7=>76 | n=>n,fun | 22=>3 | 3=>3 | 4=>4 | n=>n,fun | n=>n⟩
theorem Tryz.aAT:Go.Proofs.SlLaysC2.n5 Tryz.prog Tryz.W0:={
 mixed:=by kernel_rfl
 f5:=⟨Tryz.f43.name,by decide,Tryz.func43.trans (congrArg some (by kernel_rfl))⟩
 f7:=⟨Tryz.f76.name,by decide,Tryz.func76.trans (congrArg some (by kernel_rfl))⟩
 t3:=Tryz.underlying3
 a3:=Tryz.isAgg3
 z3:=Tryz.sizeOf3
 v3:=Tryz.zeroValue3
 t4:=Tryz.underlying4
 a4:=Tryz.isAgg4
 z4:=Tryz.sizeOf4
 v4:=Tryz.zeroValue4
 t22:=Tryz.underlying3
 a22:=Tryz.isAgg3
 z22:=Tryz.sizeOf3
 v22:=Tryz.zeroValue3 }
end Go.Proofs
namespace Go.Proofs.YtgllbnabmglcfaaGreatDoor
open Go Go.RowKit Go.Sort Go.Lib
set_option maxRecDepth 1000000 in
set_option maxHeartbeats 3200000 in
theorem or2 (a b:Int) (W:World) (g o cap:Nat) (h0:W.cell? ⟨g,o,none⟩=some (.int .i64 a)) (h1:W.cell? ⟨g,o+1,none⟩=some (.int .i64 b)) :
  Calls Tryz.prog 42 #[.slice (some ⟨g,o,none⟩) 2 cap] W fun e w'=>e=.returned (.int .i64 (if a=0 then b else a))∧w'=W:=by
 go_enter Tryz.func42,Tryz.ntmps42
 go_wp2
 go_loop [8] (fun i=>∃k:Nat,k≤2∧i=.int .i64 k∧(1≤k→a=0)∧(2≤k→b=0)) (fun i=>2-(intOf i).toNat)
 case atStart=>exact⟨0,by omega,rfl,by omega,by omega⟩
 case round =>
  obtain⟨k,hk,rfl,ha,hb⟩:=hrel
  rcases (show k=0∨k=1∨k=2 by omega) with rfl | rfl | rfl
  ·go_wp2
   case roundEnd =>
    go_round
    case rel=>exact⟨1,by omega,rfl,fun _=>by simp_all,by omega⟩
    case measure=>simp [intOf]
   all_goals (first | (exfalso;simp_all;done) | (go_ret;simp_all))
  ·go_wp2
   case roundEnd =>
    go_round
    case rel=>exact⟨2,by omega,rfl,fun _=>by simp_all,fun _=>by simp_all⟩
    case measure=>simp [intOf]
   all_goals (first | (exfalso;simp_all;done) | (go_ret;simp_all))
  ·go_wp2
   go_ret
   simp_all
theorem WY (W:World) (a b:Value):(W.alloc (.cells #[a,b] 3)).cell? ⟨W.heap.size,0,none⟩=some a∧(W.alloc (.cells #[a,b] 3)).cell? ⟨W.heap.size,0+1,none⟩=some b:=by
 have h:(W.alloc (.cells #[a,b] 3)).heap[W.heap.size]?=some (.cells #[a,b] 3):=by
  show(W.heap.push (Obj.cells #[a,b] 3))[W.heap.size]?=_
  simp
 exact⟨by rw [Hk.cell_of _ _ _ h];rfl,by rw [Hk.cell_of _ _ _ h];rfl⟩
theorem ahL (x y:Int) (W:World):Calls Tryz.prog 43 #[.int .i64 x,.int .i64 y] W fun e w'=>e=.returned (.int .i64 (Lib.compareInt x y))∧w'=W:=AnyG.cmp_Compare_int Tryz.aAT x y W
def Xx (a b x y:Int):Int:=if Lib.compareInt a b=0 then Lib.compareInt x y else Lib.compareInt a b
set_option maxRecDepth 1000000 in
set_option maxHeartbeats 3200000 in
theorem auL (x y a b:Int) (W:World) (pb po sb so len cp:Nat) (hp:W.cell? ⟨pb,po,none⟩=some (.slice (some ⟨sb,so,none⟩) len cp))
  (x0:0≤x) (x1:x.toNat<len) (ha:W.cell? ⟨sb,so+x.toNat*2,none⟩=some (.int .i64 a)) (y0:0≤y) (y1:y.toNat<len) (hb:W.cell? ⟨sb,so+y.toNat*2,none⟩=some (.int .i64 b)) :
  Calls Tryz.prog 41 #[.int .i64 x,.int .i64 y,.pointer (some ⟨pb,po,none⟩)] W fun e w'=>e=.returned (.int .i64 (Xx a b x y))∧∃q os,w'=grow (W.drewN q) os:=by
 have hc1:=fun w=>ahL a b w
 have hc2:=fun w=>ahL x y w
 have hx:(x.toNat:Int)=x:=Int.toNat_of_nonneg x0
 have hy:(y.toNat:Int)=y:=Int.toNat_of_nonneg y0
 unfold Xx
 generalize Lib.compareInt a b=ca at *
 generalize Lib.compareInt x y=cb at *
 obtain⟨nx,rfl⟩:∃n:Nat,x=n:=⟨_,hx.symm⟩
 obtain⟨ny,rfl⟩:∃n:Nat,y=n:=⟨_,hy.symm⟩
 simp only [Int.toNat_natCast] at *
 go_enter Tryz.func41,Tryz.ntmps41
 go_wp2
 go_still_tail 14,(by kernel_rfl)
 still_call (hc1 _)
 repeat still_step
 still_call (hc2 _)
 refine wpStill_nil ?_
 change wpList _ _ _ _ _ W.drew
 generalize hW2:W.drew=W2
 go_wp2_with (go_at_call 42;refine(or2 ca cb _ _ 0 _ ?_ ?_).mono ?_)
 case refine_1=>exact(WY ..).1
 case refine_2=>exact(WY ..).2
 all_goals
  go_ret
  exact⟨rfl,1,#[_],by subst hW2;rw [alloc_eq_grow];rfl⟩
theorem ac7 {a b x y:Int}:Xx a b x y<0↔(a<b∨(a=b∧x<y)):=by
 unfold Xx Lib.compareInt
 split <;> split <;> (try split) <;> (try split) <;> omega
section
variable {zs:List Int}{key:Int→Int}
def Mg (zs:List Int) (key:Int→Int) (x y:{x // x∈zs}):Int:=Xx (key x.1) (key y.1) x.1 y.1
theorem TU {x y:{x // x∈zs}}:ltOf (Mg zs key) x y=true↔(key x.1<key y.1∨(key x.1=key y.1∧x.1<y.1)):=by
 unfold ltOf Mg
 rw [decide_eq_true_iff,ac7]
theorem Eb {x y:{x // x∈zs}}:ltOf (Mg zs key) x y=false↔¬(key x.1<key y.1∨(key x.1=key y.1∧x.1<y.1)):=by
 rw [←TU (key:=key),Bool.not_eq_true]
theorem Zu:SWO (ltOf (Mg zs key)) where
 irrefl x:=by rw [Eb];omega
 trans x y z h1 h2:=by rw [TU] at *;omega
 ntrans x y z h1 h2:=by rw [Eb] at *;omega
theorem Xz {x y:Int}:Hk.q8 key x y=true↔(key x<key y∨(key x=key y∧x≤y)):=by
 unfold Hk.q8
 simp
end
theorem Xy {zs:List Int}{key:Int→Int}{x y:{x // x∈zs}}:(!ltOf (Mg zs key) y x)=Hk.q8 key x.1 y.1:=by
 rw [Bool.eq_iff_iff,Xz,Bool.not_eq_true',Eb]
 omega
theorem Zn:Hk.Hw Tryz.prog 40 41:=by
 refine⟨enters_of Tryz.func40 (by kernel_rfl) rfl,?_,?_⟩
 ·intro a cap F C w
  exact AnyF.slices_SortFunc_none (ρ:=Tryz.Ld) { Tryz.Gx with } a cap (.func (.func 41) F C) w
 ·intro w nY cap C e zs pb po sb so len cp key hblk hne hlen hC hpt hpb hsb hkey
  have:Inhabited {x // x∈zs}:=⟨⟨zs.head hne,List.head_mem hne⟩⟩
  have hbl:nY<w.heap.size:=(Array.getElem?_eq_some_iff.1 hblk).1
  have hpl:pb<w.heap.size:=by
   refine Classical.byContradiction fun h=>?_
   rw [World.cell?,Array.getElem?_eq_none (by simpa using h)] at hpt
   simp at hpt
  have hsl:sb<w.heap.size:=by
   refine Classical.byContradiction fun h=>?_
   obtain⟨y,hy⟩:=List.exists_mem_of_ne_nil _ hne
   have h3:=(hkey y hy).2.2
   rw [World.cell?,Array.getElem?_eq_none (by simpa using h)] at h3
   simp at h3
  let enc:{x // x∈zs}→Value:=fun x=>.int .i64 x.1
  have hds:zs.attach.toArray.size=zs.length:=by simp
  have hdj:∀j (hj:j<zs.length),zs.attach.toArray[j]! = ⟨zs[j],List.getElem_mem hj⟩:=by
   intro j hj
   rw [getElem!_pos _ _ (by simpa using hj)]
   simp
  have hH:Holds enc w nY 0 zs.attach.toArray:=by
   intro j hj
   rw [hds] at hj
   rw [hdj j hj]
   refine⟨?_,by simp [World.frozen?,hblk]⟩
   rw [Hk.cell_of w _ _ hblk,Nat.zero_add]
   exact hC j _ (ag8 hj)
  have hcmp:CmpLays1 Tryz.prog 41 #[.pointer (some ⟨pb,po,none⟩)] enc (Mg zs key) nY 0 zs.attach.toArray.size w:=by
   intro m os dk hs x y
   have o1:∀b k,b≠nY→b<w.heap.size→(sortWorld enc w nY 0 m dk os).cell? ⟨b,k,none⟩=w.cell? ⟨b,k,none⟩:=fun b k h1 h2=>by
    unfold sortWorld
    rw [cell?_grow _ _ _ (by rw [size_putRow];exact h2),cell?_putRow_other _ _ _ _ _ _ (Or.inl h1)]
    rfl
   obtain⟨x0,x1,x2⟩:=hkey x.1 x.2
   obtain⟨y0,y1,y2⟩:=hkey y.1 y.2
   exact auL x.1 y.1 (key x.1) (key y.1) (sortWorld enc w nY 0 m dk os) pb po sb so len cp (by rw [o1 _ _ hpb hpl];exact hpt) x0 x1 (by rw [o1 _ _ hsb hsl];exact x2) y0 y1 (by rw [o1 _ _ hsb hsl];exact y2)
  have eg:∀args w,(callFunc 41 args).run Tryz.prog w=.ok (.enter 41 args) w:=enters_of Tryz.func41 (by kernel_rfl) rfl
  have key1:=Any.slices_SortFunc Tryz.Gx enc (fun _=>rfl) (Mg zs key) Zu 41 #[.pointer (some ⟨pb,po,none⟩)] nY 0 cap zs.attach.toArray w eg hcmp hH hbl (by rw [hds];omega)
  rw [hds] at key1
  refine Calls.mono key1 fun e' w' hp=>?_
  obtain⟨rfl,d',n,os,hp,hso,rfl⟩:=hp
  rw [←hds] at hp hso
  have hu:=sorted_unique_holds (lt:=ltOf (Mg zs key)) Zu (fun x y h1 h2=>by
   rw [Eb] at h1 h2
   exact Subtype.ext (by omega)) zs.attach.toArray d' hp hso
  have hmap:d'.toList.map (fun x=>x.1)=zs.mergeSort (Hk.q8 key):=by
   rw [hu]
   exact(List.map_mergeSort (f:=fun x:{x // x∈zs}=>x.1) (r:=fun x y=>!ltOf (Mg zs key) y x) (s:=Hk.q8 key) (l:=zs.attach.toArray.toList) (fun a _ b _=>Xy)).trans (by simp)
  have hdl:d'.size=zs.length:=hp.1.trans hds
  refine⟨rfl,rfl,rfl,rfl,os,?_⟩
  show(w.heap.modify nY (onCells (Go.Sort.putCells enc 0 d')))++os=_
  congr 1
  unfold World.setRow
  have hrow:Go.Sort.putCells enc 0 d' C=((zs.mergeSort (Hk.q8 key)).map (Value.int .i64)++C.toList.drop zs.length).toArray:=by
   have hCl:zs.length≤C.size:=by
    have:=hC (zs.length-1) _ (ag8 (by have:=List.length_pos_iff.2 hne;omega))
    have:=(Array.getElem?_eq_some_iff.1 this).1
    omega
   rw [←hmap]
   apply Array.ext_getElem?
   intro k
   unfold Go.Sort.putCells
   rw [Array.getElem?_mapIdx]
   conv=>rhs;rw [List.getElem?_toArray]
   by_cases hk:k<d'.size
   ·rw [List.getElem?_append_left (by simp;omega),Array.getElem?_eq_getElem (by omega)]
    have:d'.toList[k]?=some d'[k]:=by simp [hk]
    rw [List.map_map,List.getElem?_map,this]
    simp [hk,getElem!_pos d' k hk,enc]
   ·rw [List.getElem?_append_right (by simp;omega),List.getElem?_drop]
    have e1:zs.length+(k-(List.map (Value.int .i64) (List.map (fun x=>x.val) d'.toList)).length)=k:=by simp;omega
    rw [e1,Array.getElem?_toList]
    cases C[k]? with
    | none=>rfl
    | some v=>simp [hk]
  apply Array.ext_getElem?
  intro k
  simp only [Array.getElem?_modify]
  by_cases hk:nY=k
  ·subst hk
   rw [if_pos rfl,if_pos rfl,hblk]
   simp only [Option.map_some,onCells,hrow]
  ·rw [if_neg hk,if_neg hk]
end Go.Proofs.YtgllbnabmglcfaaGreatDoor
